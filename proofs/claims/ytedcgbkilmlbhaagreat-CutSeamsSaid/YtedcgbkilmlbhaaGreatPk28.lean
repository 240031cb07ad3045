import Derived.Test.YtedcgbkilmlbhaaGreatPk24
import Derived.Test.YtedcgbkilmlbhaaGreatChecked
import Derived.Conc.AppendEvents3
section
namespace Go.Co
open Go Go.Conc
open Go.ConcN (sumTo sumTo_upd sumTo_congr le_sumTo upd upd_same upd_ne)
open Classical
variable {cf cl:Nat} {tv z z2:Value} {pM:Bool}
def wk (cf cl:Nat) (tv:Value):List Value→Pc
 | [] => .send cl tv .stop
 | v::vs => .send cf v (wk cf cl tv vs)
def GF (cf cl:Nat) (z2:Value) (pM:Bool):Nat→Pc
 | 0 => .close cf .stop
 | k+1 => .recv cl pM z2 fun x=>match x with | some _=>GF cf cl z2 pM k | none => .bad
noncomputable def VA (cf:Nat) (z:Value):Nat→List Value→Pc
 | 0,_ => .recv cf true z fun x=>match x with | some _ => .bad | none => .ret
 | n+1,rem => .recv cf true z fun x=>match x with | some v=>if v∈rem then VA cf z n (rem.erase v) else .bad | none => .bad
noncomputable def Ay (cf:Nat) (z:Value) (rem:List Value):Pc:=VA cf z rem.length rem
def chain (cf cl:Nat) (tv z2:Value) (pM:Bool) (K:Nat) (p:Pc):List (List Value)→Pc
 | [] => .go (GF cf cl z2 pM K) p
 | vs::todo => .go (wk cf cl tv vs) (chain cf cl tv z2 pM K p todo)
inductive Ro where
 | gone
 | work (vs:List Value)
def Ro.pc (cf cl:Nat) (tv:Value):Ro→Pc
 | gone => .stop
 | work vs=>wk cf cl tv vs
def Ro.vals:Ro→List Value
 | gone=>[]
 | work vs=>vs
def Ro.one:Ro→Nat
 | gone=>0
 | work _=>1
theorem ME (N:Net) (i j:Nat) (k k':Pc):(N.meet i j k k').pr j=k':=upd_same _ _ _
theorem Sg (N:Net) (i:Nat) (ch k:Pc):(N.start i ch k).pr N.n=ch:=upd_same _ _ _
theorem NM:Ro.gone.vals=[]:=rfl
theorem yz (vs:List Value):(Ro.work vs).vals=vs:=rfl
theorem S9:Ro.gone.one=0:=rfl
theorem Ih (vs:List Value):(Ro.work vs).one=1:=rfl
theorem pZ (vs:List Value):∃ c v k,wk cf cl tv vs = .send c v k∧(c=cf∨c=cl):=by
 cases vs with
 | nil=>exact⟨_,_,_,rfl,.inr rfl⟩
 | cons v vs=>exact⟨_,_,_,rfl,.inl rfl⟩
theorem um (k:Nat):(∃ p,GF cf cl z2 pM k = .recv cl pM z2 p)∨GF cf cl z2 pM k = .close cf .stop:=by
 cases k with
 | zero=>exact .inr rfl
 | succ k=>exact .inl ⟨_,rfl⟩
theorem uk (rem:List Value):∃ p,Ay cf z rem = .recv cf true z p:=by
 unfold Ay
 cases rem.length with
 | zero=>exact⟨_,rfl⟩
 | succ k=>exact⟨_,rfl⟩
theorem Je (K:Nat) (p:Pc) (todo:List (List Value)):∃ a b,chain cf cl tv z2 pM K p todo = .go a b:=by
 cases todo with
 | nil=>exact⟨_,_,rfl⟩
 | cons vs todo=>exact⟨_,_,rfl⟩
theorem B4 (r:Ro):(r = .gone∧r.pc cf cl tv = .stop)∨∃ vs,r = .work vs∧r.pc cf cl tv=wk cf cl tv vs:=by
 cases r with
 | gone=>exact .inl ⟨rfl,rfl⟩
 | work vs=>exact .inr ⟨vs,rfl,rfl⟩
theorem acJ {N:Net} {E:Nat→Prop} (hn:0<N.n) (h0:N.pr 0=Ay cf z []) (hst:∀ j,0<j→j<N.n→N.pr j = .stop) (hc:N.cl cf=some E) (hE:∀ j,0<j→j<N.n→E j):A7 (fun c=>c=cf∨c=cl) N:=by
 have Pn:N.pr 0 = .recv cf true z fun x=>match x with | some _ => .bad | none => .ret:=h0
 have cO:∀ j,j<N.n→j=0∨N.pr j = .stop:=fun j hj=>(nJ j).imp id fun h=>hst j h hj
 refine .step N (fun j hj => ?_) (by rw[Pn]; simp) (fun i c v k hi hp => ?_) (fun j c ok z k hj hp => ?_) (.inr (.inr (.inl ⟨0,_,_,_,_,E,hn,Pn,hc⟩)))
  (fun i j c v k ok z k' hi hj hp _ => ?_) (fun i c k hi hp => ?_) (fun i c k hi hp => ?_) (fun j c ok z k E' hj hp Ag => ?_) (fun i ch k hi hp => ?_)
 ·rcases cO j hj with rfl | h
  ·rw[Pn]; simp
  ·rw[h]; simp
 ·rcases cO i hi with rfl | h
  ·rw[Pn] at hp; cases hp
  ·rw[h] at hp; cases hp
 ·rcases cO j hj with rfl | h
  ·rw[Pn] at hp; cases hp; exact .inl rfl
  ·rw[h] at hp; cases hp
 ·rcases cO i hi with rfl | h
  ·rw[Pn] at hp; cases hp
  ·rw[h] at hp; cases hp
 ·rcases cO i hi with rfl | h
  ·rw[Pn] at hp; cases hp
  ·rw[h] at hp; cases hp
 ·rcases cO i hi with rfl | h
  ·rw[Pn] at hp; cases hp
  ·rw[h] at hp; cases hp
 ·rcases cO j hj with rfl | h
  ·rw[Pn] at hp
   cases hp
   rw[hc] at Ag
   cases Ag
   refine .done _ (show upd N.pr 0 _ 0=_ from upd_same _ _ _) fun j hj mN=>⟨?_,.inr (hE j hj mN)⟩
   show upd N.pr 0 _ j = .stop
   rw[upd_ne _ _ (by omega)]
   exact hst j hj mN
  ·rw[h] at hp; cases hp
 ·rcases cO i hi with rfl | h
  ·rw[Pn] at hp; cases hp
  ·rw[h] at hp; cases hp
structure afl (cf cl:Nat) (tv z z2:Value) (pM:Bool) (N:Net) (s:Nat→Ro) (jc k:Nat) (rem:List Value):Prop where
 jc0:0<jc
 jcn:jc<N.n
 main:N.pr 0=Ay cf z rem
 Dq:N.pr jc=GF cf cl z2 pM k
 gone:s jc = .gone
 other:∀ j,0<j→j<N.n→j≠jc→N.pr j=(s j).pc cf cl tv
 zero:s 0 = .gone
 cnt:∀ v,rem.count v=sumTo N.n fun j=>(s j).vals.count v
 live:k=sumTo N.n fun j=>(s j).one
 opn:∀ c,N.cl c=none
 JH:∀ j,0<j→j<N.n→s j = .gone→j≠jc→N.D jc j
theorem qU {f:Nat→Nat} {n:Nat} (h:∀ i,i<n→f i=0):sumTo n f=0:=by
 induction n with
 | zero=>rfl
 | succ n ih=>simp[sumTo,ih fun i hi=>h i (by omega),h n (by omega)]
theorem NQ {f:Nat→Nat} {n:Nat} (h:sumTo n f≠0):∃ i,i<n∧f i≠0:=by
 by_cases hx:∃ i,i<n∧f i≠0
 ·exact hx
 ·exact absurd (qU fun i hi=>by
   by_cases h0:f i=0
   ·exact h0
   ·exact absurd ⟨i,hi,h0⟩ hx) h
theorem acK (hne:cf≠cl):∀ (M:Nat) (N:Net) (s:Nat→Ro) (jc k:Nat) (rem:List Value),rem.length+k<M→afl cf cl tv z z2 pM N s jc k rem→A7 (fun c=>c=cf∨c=cl) N:=by
 intro M
 induction M with
 | zero=>exact fun _ _ _ _ _ h=>absurd h (Nat.not_lt_zero _)
 | succ M ih =>
  intro N s jc k rem hM I
  have hn:0<N.n:=cH I.jc0 (Nat.le_of_lt I.jcn)
  obtain⟨pc,Nd⟩:=uk (cf:=cf) (z:=z) rem
  have cO:∀ j,j<N.n→j=0∨j=jc∨(0<j∧j≠jc∧((s j = .gone∧N.pr j = .stop)∨∃ vs,s j = .work vs∧N.pr j=wk cf cl tv vs)):=by
   intro j hj
   rcases nJ j with rfl | hp
   ·exact .inl rfl
   by_cases hjc:j=jc
   ·exact .inr (.inl hjc)
   refine .inr (.inr ⟨hp,hjc,?_⟩)
   have:=I.other j hp hj hjc
   rcases B4 (cf:=cf) (cl:=cl) (tv:=tv) (s j) with ⟨h1,h2⟩ | ⟨vs,h1,h2⟩
   ·exact .inl ⟨h1,this.trans h2⟩
   ·exact .inr ⟨vs,h1,this.trans h2⟩
  have ab6:∀ i c v p,i<N.n→N.pr i = .send c v p→0<i∧i≠jc∧((∃ vs,s i = .work (v::vs)∧c=cf∧p=wk cf cl tv vs)∨(s i = .work []∧c=cl∧p = .stop)):=by
   intro i c v p hi hp
   rcases cO i hi with rfl | rfl | ⟨h1,h2,⟨h3,h4⟩ | ⟨vs,h3,h4⟩⟩
   ·rw[I.main,Nd] at hp; cases hp
   ·rw[I.Dq] at hp
    rcases um (cf:=cf) (cl:=cl) (z2:=z2) (pM:=pM) k with ⟨p',h⟩ | h<;>rw[h] at hp<;>cases hp
   ·rw[h4] at hp; cases hp
   ·refine⟨h1,h2,?_⟩
    rw[h4] at hp
    cases vs with
    | nil=>cases hp; exact .inr ⟨h3,rfl,rfl⟩
    | cons v' vs=>cases hp; exact .inl ⟨vs,h3,rfl,rfl⟩
  have ZK:∀ j c ok z' p,j<N.n→N.pr j = .recv c ok z' p→(j=0∧c=cf)∨(j=jc∧c=cl):=by
   intro j c ok z' p hj hp
   rcases cO j hj with rfl | rfl | ⟨h1,h2,⟨h3,h4⟩ | ⟨vs,h3,h4⟩⟩
   ·rw[I.main,Nd] at hp; cases hp; exact .inl ⟨rfl,rfl⟩
   ·rw[I.Dq] at hp
    rcases um (cf:=cf) (cl:=cl) (z2:=z2) (pM:=pM) k with ⟨p',h⟩ | h<;>rw[h] at hp<;>cases hp
    exact .inr ⟨rfl,rfl⟩
   ·rw[h4] at hp; cases hp
   ·rw[h4] at hp
    obtain⟨_,_,_,h,_⟩:=pZ (cf:=cf) (cl:=cl) (tv:=tv) vs
    rw[h] at hp; cases hp
  have aci:∀ j c p,j<N.n→N.pr j = .close c p→j=jc∧c=cf∧p = .stop∧k=0:=by
   intro j c p hj hp
   rcases cO j hj with rfl | rfl | ⟨h1,h2,⟨h3,h4⟩ | ⟨vs,h3,h4⟩⟩
   ·rw[I.main,Nd] at hp; cases hp
   ·rw[I.Dq] at hp
    cases k with
    | zero=>cases hp; exact⟨rfl,rfl,rfl,rfl⟩
    | succ k=>cases hp
   ·rw[h4] at hp; cases hp
   ·rw[h4] at hp
    obtain⟨_,_,_,h,_⟩:=pZ (cf:=cf) (cl:=cl) (tv:=tv) vs
    rw[h] at hp; cases hp
  have hgo:∀ j a p,j<N.n→N.pr j ≠ .go a p:=by
   intro j a p hj hp
   rcases cO j hj with rfl | rfl | ⟨h1,h2,⟨h3,h4⟩ | ⟨vs,h3,h4⟩⟩
   ·rw[I.main,Nd] at hp; cases hp
   ·rw[I.Dq] at hp
    rcases um (cf:=cf) (cl:=cl) (z2:=z2) (pM:=pM) k with ⟨p',h⟩ | h<;>rw[h] at hp<;>cases hp
   ·rw[h4] at hp; cases hp
   ·rw[h4] at hp
    obtain⟨_,_,_,h,_⟩:=pZ (cf:=cf) (cl:=cl) (tv:=tv) vs
    rw[h] at hp; cases hp
  have afI:=I.jc0
  refine .step N (fun j hj => ?_) (by rw[I.main,Nd]; simp) (fun i c v p hi hp=>⟨I.opn c,?_⟩) (fun j c ok z' p hj hp => ?_) ?_
   (fun i j c v p ok z' p' hi hj hp hq => ?_) (fun i c p hi hp=>⟨I.opn c,.inl (aci i c p hi hp).2.1⟩) (fun i c p hi hp => ?_) (fun j c ok z' p E' hj hp Ag => ?_) (fun i ch p hi hp=>absurd hp (hgo i ch p hi))
  ·rcases cO j hj with rfl | rfl | ⟨h1,h2,⟨h3,h4⟩ | ⟨vs,h3,h4⟩⟩
   ·rw[I.main,Nd]; simp
   ·rw[I.Dq]
    rcases um (cf:=cf) (cl:=cl) (z2:=z2) (pM:=pM) k with ⟨p',h⟩ | h<;>rw[h]<;>simp
   ·rw[h4]; simp
   ·rw[h4]
    obtain⟨_,_,_,h,_⟩:=pZ (cf:=cf) (cl:=cl) (tv:=tv) vs
    rw[h]; simp
  ·rcases (ab6 i c v p hi hp).2.2 with ⟨_,_,h,_⟩ | ⟨_,h,_⟩
   ·exact .inl h
   ·exact .inr h
  ·rcases ZK j c ok z' p hj hp with ⟨_,h⟩ | ⟨_,h⟩
   ·exact .inl h
   ·exact .inr h
  ·
   by_cases hk:k=0
   ·exact .inr (.inl ⟨jc,cf,.stop,I.jcn,by rw[I.Dq,hk]; rfl⟩)
   ·obtain⟨i,hi,ZN⟩:=NQ (f:=fun j=>(s j).one) (n:=N.n) (by rw[← I.live]; exact hk)
    obtain⟨k',rfl⟩:=Nat.exists_eq_succ_of_ne_zero hk
    rcases cO i hi with rfl | rfl | ⟨h1,h2,⟨h3,h4⟩ | ⟨vs,h3,h4⟩⟩
    ·simp[I.zero,Ro.one] at ZN
    ·simp[I.gone,Ro.one] at ZN
    ·simp[h3,Ro.one] at ZN
    ·cases vs with
     | nil=>exact .inl ⟨i,jc,cl,_,_,_,_,_,hi,I.jcn,h4,I.Dq⟩
     | cons v vs=>exact .inl ⟨i,0,cf,_,_,_,_,_,hi,hn,h4,by rw[I.main]; exact Nd⟩
  ·
   obtain⟨A5,ZU,hs⟩:=ab6 i c v p hi hp
   rcases hs with ⟨vs,hs,rfl,rfl⟩ | ⟨hs,rfl,rfl⟩
   ·
    obtain rfl:j=0:=by
     rcases ZK j _ ok z' p' hj hq with ⟨h,_⟩ | ⟨_,h⟩
     ·exact h
     ·exact absurd h hne
    have hv:v∈rem:=by
     have h1:=I.cnt v
     have h2:=le_sumTo (f:=fun j=>(s j).vals.count v) hi
     simp only[hs,yz,List.count_cons_self] at h2
     exact List.count_pos_iff.1 (by omega)
    have hlen:rem.length=(rem.erase v).length+1:=by
     rw[List.length_erase_of_mem hv]
     have:=List.length_pos_of_mem hv
     omega
    have rE:p' (some v)=Ay c z (rem.erase v):=by
     have hm:=I.main
     rw[hq] at hm
     unfold Ay at hm
     rw[hlen] at hm
     cases hm
     show (if v∈rem then VA c z (rem.erase v).length (rem.erase v) else .bad)=_
     rw[if_pos hv]
     rfl
    rw[rE]
    refine ih _ (upd s i (.work vs)) jc k (rem.erase v) (by omega) ⟨I.jc0,I.jcn,ME _ _ _ _ _,?_,?_,fun j hj mN Db => ?_,?_,fun v' => ?_,?_,I.opn,fun j hj mN hg Db => ?_⟩
    ·show upd (upd N.pr i _) 0 _ jc=_
     rw[upd_ne _ _ (by omega),upd_ne _ _ (Ne.symm ZU)]
     exact I.Dq
    ·rw[upd_ne _ _ (Ne.symm ZU)]; exact I.gone
    ·show upd (upd N.pr i _) 0 _ j=_
     rw[upd_ne _ _ (by omega)]
     by_cases gO:j=i
     ·subst gO
      rw[upd_same,upd_same]; rfl
     ·rw[upd_ne _ _ gO,upd_ne _ _ gO]
      exact I.other j hj mN Db
    ·rw[upd_ne _ _ (by omega)]; exact I.zero
    ·have h1:=I.cnt v'
     have h2:=sumTo_upd s (.work vs) (fun r=>r.vals.count v') hi
     show (rem.erase v).count v'=sumTo N.n _
     simp only[hs,yz,List.count_cons] at h2
     rw[List.count_erase]
     split at h2<;>rename_i h3
     ·rw[if_pos h3]; omega
     ·rw[if_neg h3]; omega
    ·have h2:=sumTo_upd s (.work vs) Ro.one hi
     have h1:=I.live
     simp only[hs,Ih] at h2
     show k=sumTo N.n _
     omega
    ·by_cases gO:j=i
     ·subst gO; rw[upd_same] at hg; cases hg
     ·rw[upd_ne _ _ gO] at hg
      show if jc=i∨jc=0 then _ else N.D jc j
      rw[if_neg (by omega)]
      exact I.JH j hj mN hg Db
   ·
    obtain rfl:j=jc:=by
     rcases ZK j _ ok z' p' hj hq with ⟨_,h⟩ | ⟨h,_⟩
     ·exact absurd h.symm hne
     ·exact h
    obtain⟨k',rfl⟩:∃ k',k=k'+1:=by
     cases k with
     | zero=>rw[I.Dq] at hq; cases hq
     | succ k=>exact⟨k,rfl⟩
    have rE:p' (some v)=GF cf c z2 pM k':=by
     have:=I.Dq
     rw[hq] at this
     cases this
     rfl
    rw[rE]
    refine ih _ (upd s i .gone) j k' rem (by omega) ⟨I.jc0,I.jcn,?_,ME _ _ _ _ _,?_,fun x hx DD Pz => ?_,?_,fun v' => ?_,?_,I.opn,fun x hx DD hg Pz => ?_⟩
    ·show upd (upd N.pr i _) j _ 0=_
     rw[upd_ne _ _ (by omega),upd_ne _ _ (by omega)]
     exact I.main
    ·rw[upd_ne _ _ (Ne.symm ZU)]; exact I.gone
    ·show upd (upd N.pr i _) j _ x=_
     rw[upd_ne _ _ Pz]
     by_cases hxi:x=i
     ·subst hxi
      rw[upd_same,upd_same]; rfl
     ·rw[upd_ne _ _ hxi,upd_ne _ _ hxi]
      exact I.other x hx DD Pz
    ·rw[upd_ne _ _ (by omega)]; exact I.zero
    ·have h1:=I.cnt v'
     have h2:=sumTo_upd s .gone (fun r=>r.vals.count v') hi
     show rem.count v'=sumTo N.n _
     simp only[hs,yz,NM,List.count_nil] at h2
     omega
    ·have h2:=sumTo_upd s .gone Ro.one hi
     have h1:=I.live
     simp only[hs,Ih,S9] at h2
     show k'=sumTo N.n _
     omega
    ·show if j=i∨j=j then _ else _
     rw[if_pos (.inr rfl)]
     by_cases hxi:x=i
     ·exact .inr (.inr (.inl ⟨hxi,rfl⟩))
     ·rw[upd_ne _ _ hxi] at hg
      exact .inr (.inl (I.JH x hx DD hg Pz))
  ·
   obtain⟨rfl,rfl,rfl,rfl⟩:=aci i c p hi hp
   have fA:∀ j,j<N.n→s j = .gone:=by
    intro j hj
    have h1:=le_sumTo (f:=fun j=>(s j).one) hj
    rw[← I.live] at h1
    cases h:s j with
    | gone=>rfl
    | work vs=>simp[h,Ro.one] at h1
   have aeF:rem=[]:=by
    cases hr:rem with
    | nil=>rfl
    | cons v vs =>
     have h1:=I.cnt v
     rw[qU fun j hj=>by simp[fA j hj,Ro.vals],hr] at h1
     simp at h1
   subst aeF
   refine acJ (z:=z) (E:=fun y=>N.D i y∨(y=i∧Pc.stop=Pc.stop)) hn ?_ (fun j hj mN => ?_) (upd_same _ _ _) (fun j hj mN => ?_)
   ·show upd N.pr i _ 0=_
    rw[upd_ne _ _ (by omega)]
    exact I.main
   ·show upd N.pr i _ j=_
    by_cases gO:j=i
    ·subst gO; rw[upd_same]
    ·rw[upd_ne _ _ gO,I.other j hj mN gO,fA j mN]; rfl
   ·by_cases gO:j=i
    ·exact .inr ⟨gO,rfl⟩
    ·exact .inl (I.JH j hj mN (fA j mN) gO)
  ·rw[I.opn c] at Ag; cases Ag
structure afm (cf cl:Nat) (tv z z2:Value) (pM:Bool) (K:Nat) (R:List Value) (N:Net) (s:Nat→Ro) (todo:List (List Value)):Prop where
 n0:0<N.n
 main:N.pr 0=chain cf cl tv z2 pM K (Ay cf z R) todo
 other:∀ j,0<j→j<N.n→N.pr j=(s j).pc cf cl tv
 zero:s 0 = .gone
 cnt:∀ v,R.count v=todo.flatten.count v+sumTo N.n fun j=>(s j).vals.count v
 live:K=todo.length+sumTo N.n fun j=>(s j).one
 opn:∀ c,N.cl c=none
 JH:∀ j,0<j→j<N.n→s j = .gone→N.D 0 j
theorem qV {s:Nat→Ro} {r:Ro} {n:Nat} (φ:Ro→Nat):sumTo (n+1) (fun j=>φ (upd s n r j))=sumTo n (fun j=>φ (s j))+φ r:=by
 simp only[sumTo,upd_same]
 rw[sumTo_congr (g:=fun j=>φ (s j)) fun j hj=>by rw[upd_ne _ _ (by omega)]]
theorem acL (hne:cf≠cl) {K:Nat} {R:List Value}:∀ (todo:List (List Value)) (N:Net) (s:Nat→Ro),afm cf cl tv z z2 pM K R N s todo→A7 (fun c=>c=cf∨c=cl) N:=by
 intro todo
 induction todo with
 | nil =>
  intro N s I
  have kT:N.pr 0 = .go (GF cf cl z2 pM K) (Ay cf z R):=I.main
  have cO:∀ j,j<N.n→j=0∨(0<j∧((s j = .gone∧N.pr j = .stop)∨∃ vs c v k,s j = .work vs∧N.pr j = .send c v k∧(c=cf∨c=cl))):=by
   intro j hj
   refine(nJ j).imp id fun hp=>⟨hp,?_⟩
   have:=I.other j hp hj
   rcases B4 (cf:=cf) (cl:=cl) (tv:=tv) (s j) with ⟨h1,h2⟩ | ⟨vs,h1,h2⟩
   ·exact .inl ⟨h1,this.trans h2⟩
   ·obtain⟨c,v,k,h3,h4⟩:=pZ (cf:=cf) (cl:=cl) (tv:=tv) vs
    exact .inr ⟨vs,c,v,k,h1,(this.trans h2).trans h3,h4⟩
  refine .step N (fun j hj => ?_) (by rw[kT]; simp) (fun i c v p hi hp=>⟨I.opn c,?_⟩) (fun j c ok z' p hj hp => ?_) (.inr (.inr (.inr ⟨0,_,_,I.n0,kT⟩)))
   (fun i j c v p ok z' p' hi hj hp hq => ?_) (fun i c p hi hp => ?_) (fun i c p hi hp => ?_) (fun j c ok z' p E' hj hp Ag => ?_) (fun i ch p hi hp => ?_)
  ·rcases cO j hj with rfl | ⟨_,⟨_,h⟩ | ⟨_,_,_,_,_,h,_⟩⟩
   ·rw[kT]; simp
   ·rw[h]; simp
   ·rw[h]; simp
  ·rcases cO i hi with rfl | ⟨_,⟨_,h⟩ | ⟨_,_,_,_,_,h,h'⟩⟩
   ·rw[kT] at hp; cases hp
   ·rw[h] at hp; cases hp
   ·rw[h] at hp; cases hp; exact h'
  ·rcases cO j hj with rfl | ⟨_,⟨_,h⟩ | ⟨_,_,_,_,_,h,_⟩⟩
   ·rw[kT] at hp; cases hp
   ·rw[h] at hp; cases hp
   ·rw[h] at hp; cases hp
  ·rcases cO j hj with rfl | ⟨_,⟨_,h⟩ | ⟨_,_,_,_,_,h,_⟩⟩
   ·rw[kT] at hq; cases hq
   ·rw[h] at hq; cases hq
   ·rw[h] at hq; cases hq
  ·rcases cO i hi with rfl | ⟨_,⟨_,h⟩ | ⟨_,_,_,_,_,h,_⟩⟩
   ·rw[kT] at hp; cases hp
   ·rw[h] at hp; cases hp
   ·rw[h] at hp; cases hp
  ·rcases cO i hi with rfl | ⟨_,⟨_,h⟩ | ⟨_,_,_,_,_,h,_⟩⟩
   ·rw[kT] at hp; cases hp
   ·rw[h] at hp; cases hp
   ·rw[h] at hp; cases hp
  ·rw[I.opn c] at Ag; cases Ag
  ·rcases cO i hi with rfl | ⟨_,⟨_,h⟩ | ⟨_,_,_,_,_,h,_⟩⟩
   ·rw[kT] at hp
    cases hp
    have hn:=I.n0
    refine acK (tv:=tv) (z:=z) (z2:=z2) (pM:=pM) hne (R.length+K+1) _ (upd s N.n .gone) N.n K R (Nat.lt_succ_self _) ⟨hn,Nat.lt_succ_self _,?_,Sg _ _ _ _,upd_same _ _ _,fun j hj mN Db => ?_,?_,fun v => ?_,?_,I.opn,fun j hj mN hg Db => ?_⟩
    ·show upd (upd N.pr 0 _) N.n _ 0=_
     rw[upd_ne _ _ (by omega),upd_same]
    ·show upd (upd N.pr 0 _) N.n _ j=_
     have JK:j<N.n:=by
      have:j<N.n+1:=mN
      omega
     rw[upd_ne _ _ Db,upd_ne _ _ (by omega),upd_ne _ _ Db]
     exact I.other j hj JK
    ·rw[upd_ne _ _ (by omega)]; exact I.zero
    ·show R.count v=sumTo (N.n+1) _
     rw[qV (s:=s) (r := .gone) fun r=>r.vals.count v]
     have:=I.cnt v
     simpa [Ro.vals] using this
    ·show K=sumTo (N.n+1) _
     rw[qV (s:=s) (r := .gone) Ro.one]
     have:=I.live
     simpa [Ro.one] using this
    ·show if N.n=N.n then N.D 0 j else _
     rw[if_pos rfl]
     have JK:j<N.n:=by
      have:j<N.n+1:=mN
      omega
     rw[upd_ne _ _ Db] at hg
     exact I.JH j hj JK hg
   ·rw[h] at hp; cases hp
   ·rw[h] at hp; cases hp
 | cons vs todo ih =>
  intro N s I
  have kT:N.pr 0 = .go (wk cf cl tv vs) (chain cf cl tv z2 pM K (Ay cf z R) todo):=I.main
  have cO:∀ j,j<N.n→j=0∨(0<j∧((s j = .gone∧N.pr j = .stop)∨∃ vs c v k,s j = .work vs∧N.pr j = .send c v k∧(c=cf∨c=cl))):=by
   intro j hj
   refine(nJ j).imp id fun hp=>⟨hp,?_⟩
   have:=I.other j hp hj
   rcases B4 (cf:=cf) (cl:=cl) (tv:=tv) (s j) with ⟨h1,h2⟩ | ⟨vs,h1,h2⟩
   ·exact .inl ⟨h1,this.trans h2⟩
   ·obtain⟨c,v,k,h3,h4⟩:=pZ (cf:=cf) (cl:=cl) (tv:=tv) vs
    exact .inr ⟨vs,c,v,k,h1,(this.trans h2).trans h3,h4⟩
  refine .step N (fun j hj => ?_) (by rw[kT]; simp) (fun i c v p hi hp=>⟨I.opn c,?_⟩) (fun j c ok z' p hj hp => ?_) (.inr (.inr (.inr ⟨0,_,_,I.n0,kT⟩)))
   (fun i j c v p ok z' p' hi hj hp hq => ?_) (fun i c p hi hp => ?_) (fun i c p hi hp => ?_) (fun j c ok z' p E' hj hp Ag => ?_) (fun i ch p hi hp => ?_)
  ·rcases cO j hj with rfl | ⟨_,⟨_,h⟩ | ⟨_,_,_,_,_,h,_⟩⟩
   ·rw[kT]; simp
   ·rw[h]; simp
   ·rw[h]; simp
  ·rcases cO i hi with rfl | ⟨_,⟨_,h⟩ | ⟨_,_,_,_,_,h,h'⟩⟩
   ·rw[kT] at hp; cases hp
   ·rw[h] at hp; cases hp
   ·rw[h] at hp; cases hp; exact h'
  ·rcases cO j hj with rfl | ⟨_,⟨_,h⟩ | ⟨_,_,_,_,_,h,_⟩⟩
   ·rw[kT] at hp; cases hp
   ·rw[h] at hp; cases hp
   ·rw[h] at hp; cases hp
  ·rcases cO j hj with rfl | ⟨_,⟨_,h⟩ | ⟨_,_,_,_,_,h,_⟩⟩
   ·rw[kT] at hq; cases hq
   ·rw[h] at hq; cases hq
   ·rw[h] at hq; cases hq
  ·rcases cO i hi with rfl | ⟨_,⟨_,h⟩ | ⟨_,_,_,_,_,h,_⟩⟩
   ·rw[kT] at hp; cases hp
   ·rw[h] at hp; cases hp
   ·rw[h] at hp; cases hp
  ·rcases cO i hi with rfl | ⟨_,⟨_,h⟩ | ⟨_,_,_,_,_,h,_⟩⟩
   ·rw[kT] at hp; cases hp
   ·rw[h] at hp; cases hp
   ·rw[h] at hp; cases hp
  ·rw[I.opn c] at Ag; cases Ag
  ·rcases cO i hi with rfl | ⟨_,⟨_,h⟩ | ⟨_,_,_,_,_,h,_⟩⟩
   ·rw[kT] at hp
    cases hp
    have hn:=I.n0
    refine ih _ (upd s N.n (.work vs)) ⟨Nat.succ_pos _,?_,fun j hj mN => ?_,?_,fun v => ?_,?_,I.opn,fun j hj mN hg => ?_⟩
    ·show upd (upd N.pr 0 _) N.n _ 0=_
     rw[upd_ne _ _ (by omega),upd_same]
    ·show upd (upd N.pr 0 _) N.n _ j=_
     by_cases Db:j=N.n
     ·rw[Db,upd_same,upd_same]; rfl
     ·have JK:j<N.n:=by
       have:j<N.n+1:=mN
       omega
      rw[upd_ne _ _ Db,upd_ne _ _ (by omega),upd_ne _ _ Db]
      exact I.other j hj JK
    ·rw[upd_ne _ _ (by omega)]; exact I.zero
    ·show R.count v=_+sumTo (N.n+1) _
     rw[qV (s:=s) (r := .work vs) fun r=>r.vals.count v]
     have:=I.cnt v
     simp only[List.flatten_cons,List.count_append] at this
     show _=_+(_+vs.count v)
     omega
    ·show K=_+sumTo (N.n+1) _
     rw[qV (s:=s) (r := .work vs) Ro.one]
     have:=I.live
     simp only[List.length_cons] at this
     show _=_+(_+1)
     omega
    ·by_cases Db:j=N.n
     ·subst Db; rw[upd_same] at hg; cases hg
     ·have JK:j<N.n:=by
       have:j<N.n+1:=mN
       omega
      rw[upd_ne _ _ Db] at hg
      show if 0=N.n then _ else N.D 0 j
      rw[if_neg (by omega)]
      exact I.JH j hj JK hg
   ·rw[h] at hp; cases hp
   ·rw[h] at hp; cases hp
theorem IP (hne:cf≠cl) (todo:List (List Value)) {n:Nat} (hn:0<n):A7 (fun c=>c=cf∨c=cl) (entry n (chain cf cl tv z2 pM todo.length (Ay cf z todo.flatten) todo)):=by
 refine acL (tv:=tv) (z:=z) (z2:=z2) (pM:=pM) hne todo _ (fun _ => .gone) ⟨hn,rfl,fun j hj mN => ?_,rfl,fun v => ?_,?_,fun _=>rfl,fun j hj mN _=>⟨hj,mN⟩⟩
 ·have:j≠0:=by omega
  simp[entry,this,Ro.pc]
 ·rw[qU fun j hj=>by simp[Ro.vals]]; simp
 ·rw[qU fun j hj=>by simp[Ro.one]]; simp
end Go.Co
end
section
namespace Go.Co
open Go Go.Conc Go.Proofs
variable {af:Machine→Trace→Prop} {main:Bool} {K:Gm→Goroutine→World→Prop} {p:Pc} {γ:So} {w:World}
def Jp (low up:List Int) (s:Int) (st:Int×Int×Int) (i:Nat):Int×Int×Int :=
 if (i:Int)+s<0∨(low.length:Int)≤i+s then st
 else if st.2.2=0 then (up.getD i 0+low.getD (i+s).toNat 0,up.getD i 0+low.getD (i+s).toNat 0,1)
 else (if up.getD i 0+low.getD (i+s).toNat 0<st.1 then up.getD i 0+low.getD (i+s).toNat 0 else st.1,if st.2.1<up.getD i 0+low.getD (i+s).toNat 0 then up.getD i 0+low.getD (i+s).toNat 0 else st.2.1,st.2.2+1)
def A1 (low up:List Int) (s:Int) (k:Nat):Int×Int×Int:=(List.range k).foldl (Jp low up s) (0,0,0)
def uQ (low up:List Int) (s:Int):Int×Int×Int:=A1 low up s up.length
theorem sL (low up:List Int) (s:Int) (k:Nat):A1 low up s (k+1)=Jp low up s (A1 low up s k) k:=by simp[A1,jM]
def UB (l:List Int):Prop:=l.length≤1000∧∀ (i:Nat) (x:Int),l[i]? = some x→0≤x∧x≤9
theorem Mb (low up:List Int) (s:Int) (k:Nat):0≤(A1 low up s k).2.2∧(A1 low up s k).2.2≤k:=by
 induction k with
 | zero=>simp[A1]
 | succ k ih =>
  rw[sL]
  unfold Jp
  split
  ·omega
  ·split<;>simp<;>omega
theorem Ma (low up:List Int) (s:Int) (h:s ≤ -(up.length:Int)∨(low.length:Int)≤s):∀ k,k≤up.length→A1 low up s k=(0,0,0):=by
 intro k
 induction k with
 | zero=>intro _; rfl
 | succ k ih =>
  intro hk
  rw[sL,ih (by omega)]
  unfold Jp
  rw[if_pos (by omega)]
theorem vn {n:Int} (h : -9223372036854775808≤n) (h':n≤9223372036854775807):IntKind.i64.wrap n=n:=by rw[IntKind.wrap_i64]; omega
def acA (ua lb:Value) (A B:Option Addr) (ca cb:Nat) (low up:List Int) (s:Int) (bA bB:Nat) (st:Int×Int×Int) (k:Nat) (u:Nat→Value):Act :=
 ⟨#[.agg #[ua,.slice A low.length ca],.agg #[.slice B up.length cb,lb],.int .i64 s,.pointer (some ⟨bA,0,none⟩),.pointer (some ⟨bB,0,none⟩),u 5,.int .i64 st.1,.int .i64 st.2.1,.int .i64 st.2.2,u 9,u 10,u 11,u 12,u 13,u 14,u 15,u 16,u 17,u 18,u 19,u 20,u 21,u 22,u 23,u 24,u 25,u 26,.slice B up.length cb,.int .i64 up.length,.int .i64 k,u 30,u 31,u 32,u 33,u 34,u 35,u 36,u 37,u 38,u 39,u 40,u 41,u 42,u 43,u 44,u 45,u 46,u 47,u 48,u 49,u 50,u 51,u 52,u 53,u 54,u 55,u 56,u 57,u 58,u 59,u 60,u 61,u 62,u 63,u 64,u 65,u 66,u 67,u 68],[]⟩
def Tri (r:Int×Int×Int):Value := .tuple #[.int .i64 r.1,.int .i64 r.2.1,.int .i64 r.2.2]
set_option maxRecDepth 100000 in
set_option maxHeartbeats 2000000 in
theorem aaJ (C:KC Tryz.prog main K Az E1) (hp:p ≠ .ret) {ua ub la lb:Value} {low up:List Int} (s:Int) (hl:xZ γ w la low) (hu:xZ γ w ub up) (Pe:UB low) (Uo:UB up) :
  wV K Tryz.prog (p,γ) 78 #[.agg #[ua,la],.agg #[ub,lb],.int .i64 s] w fun γ' v w'=>γ'.1=p∧v=Tri (uQ low up s)∧Kept γ w γ'.2 w':=by
 refine Cb Tryz.func78 (by rfl) rfl ?_
 simp only[Tryz.ntmps78,lg,List.length_cons,List.length_nil,Nat.reduceAdd,Nat.reduceSub,Array.replicate_succ,Array.replicate_zero,List.push_toArray,List.append_toArray,List.nil_append,List.cons_append]
 refine aY C (cr C ?_)
 refine pF C hp (ob := ?ob1) rfl (by rfl) (fun w=>run_eq_of fun K hK => ?r1) (fun w => ?e1) ?h1
 case r1=>go_simp; exact hK
 case e1=>simp[go_sem]
 intro w1 Pw
 try walk_nrm
 have yZ:=(hl.rely Pw).alloc w1.heap.size (.cells #[ua,la] 91)
 have hu1:=(hu.rely Pw).alloc w1.heap.size (.cells #[ua,la] 91)
 have Uv:bE _ _ ⟨w1.heap.size,1,none⟩ la:=bE.fresh (γ:=γ) (w:=w1) (cs:=#[ua,la]) (t:=91) rfl rfl
 have rT:=(Kept.rely Pw).trans (Kept.alloc γ w1 w1.heap.size (.cells #[ua,la] 91))
 refine pF C hp (ob := ?ob2) rfl (by rfl) (fun w=>run_eq_of fun K hK => ?r2) (fun w => ?e2) ?h2
 case r2=>go_simp; exact hK
 case e2=>simp[go_sem]
 intro w2 O4
 try walk_nrm
 have tB:=(yZ.rely O4).alloc w2.heap.size (.cells #[ub,lb] 91)
 have hu2:=(hu1.rely O4).alloc w2.heap.size (.cells #[ub,lb] 91)
 have Lr:=(Uv.rely O4).alloc w2.heap.size (.cells #[ub,lb] 91)
 have DI:bE _ _ ⟨w2.heap.size,0,none⟩ ub:=bE.fresh (γ:=γ.more w1.heap.size) (w:=w2) (cs:=#[ub,lb]) (t:=91) rfl rfl
 have Lh:=rT.trans ((Kept.rely O4).trans (Kept.alloc _ w2 w2.heap.size (.cells #[ub,lb] 91)))
 refine av C ?_
 try walk_nrm
 refine av C ?_
 try walk_nrm
 refine av C ?_
 try walk_nrm
 refine aT C ?_
 refine aY C ?_
 clear hl hu yZ hu1 Uv rT O4 Pw
 generalize (γ.more w1.heap.size).more w2.heap.size=γ2 at *
 generalize w2.alloc (.cells #[ub,lb] 91)=W at *
 generalize w2.heap.size=bB at *
 generalize w1.heap.size=bA at *
 obtain⟨A,ca,rfl,hA⟩:=tB
 obtain⟨B,cb,rfl,hB⟩:=hu2
 have LH:=Pe.1
 have Bt:=Uo.1
 have hwa:IntKind.i64.wrap (0-(up.length:Int)) = -(up.length:Int):=by rw[vn]<;>omega
 have hwb:IntKind.i64.wrap (-(up.length:Int)) = -(up.length:Int):=by rw[vn]<;>omega
 have Hp:∀ (a:Act) (st:Int×Int×Int),a.defers=[]→a.tmps.getD 6 undef = .int .i64 st.1→a.tmps.getD 7 undef = .int .i64 st.2.1→a.tmps.getD 8 undef = .int .i64 st.2.2→st=uQ low up s→LR Tryz.prog Tryz.f78 (fun(γ':Gm) (v:Value) (w':World)=>γ'.1=p∧v=Tri (uQ low up s)∧Kept γ w γ'.2 w') (p,γ2) .ret a W:=by
  intro a st hd h6 h7 h8 hst
  refine⟨hd,Tri st,?_,rfl,by rw[hst],Lh⟩
  intro w'
  constructor
  ·simp at h6 h7 h8
   simp[results,Tryz.results78,h6,h7,h8,Tri,go_sem]
  ·simp[results,Tryz.results78,go_sem]
 by_cases DG:s ≤ -(up.length:Int)
 ·have Zd:decide (s ≤ -(up.length:Int))=true:=by simpa using DG
  refine aY C (cr C ?_)
  refine av C ?_
  try walk_nrm
  refine av C ?_
  try walk_nrm
  refine jj C hp DI ?_
  try walk_nrm
  refine av C ?_
  try walk_nrm
  refine dQ C (v := ?v10) rfl (by rfl) (fun w=>run_eq_of fun K hK => ?r10) (fun w => ?e10) ?x6
  case r10=>go_simp; exact hK
  case e10=>simp[go_sem,Op.unary]
  try walk_nrm
  refine av C ?_
  try walk_nrm
  refine av C ?_
  try walk_nrm
  refine cW C rfl (by rfl) ?_
  try walk_nrm
  refine cW C rfl (by rfl) ?_
  try walk_nrm
  refine cW C rfl (by rfl) ?_
  try walk_nrm
  refine cW C rfl (by rfl) ?_
  try walk_nrm
  refine cW C rfl (by rfl) ?_
  try walk_nrm
  refine av C ?_
  try walk_nrm
  refine aT C ?_
  co_then
  refine dx C (t:=true) rfl ?_
  simp only[if_true]
  refine aY C (cr C ?_)
  refine av C ?_
  try walk_nrm
  refine av C ?_
  try walk_nrm
  refine av C ?_
  try walk_nrm
  refine aT C ?_
  co_then
  refine BG C ?_
  co_then
  exact Hp _ (0,0,0) rfl rfl rfl rfl (Ma low up s (by omega) _ (ak _)).symm
 ·have Zd:decide (s ≤ -(up.length:Int))=false:=by simpa using DG
  by_cases hs2:(low.length:Int)≤s
  ·have hd2:decide ((low.length:Int)≤s)=true:=by simpa using hs2
   refine aY C (cr C ?_)
   refine av C ?_
   try walk_nrm
   refine av C ?_
   try walk_nrm
   refine jj C hp DI ?_
   try walk_nrm
   refine av C ?_
   try walk_nrm
   refine dQ C (v := ?v21) rfl (by rfl) (fun w=>run_eq_of fun K hK => ?r21) (fun w => ?e21) ?h21
   case r21=>go_simp; exact hK
   case e21=>simp[go_sem,Op.unary]
   try walk_nrm
   refine av C ?_
   try walk_nrm
   refine av C ?_
   try walk_nrm
   refine av C ?_
   try walk_nrm
   refine av C ?_
   try walk_nrm
   refine jj C hp Lr ?_
   try walk_nrm
   refine av C ?_
   try walk_nrm
   refine av C ?_
   try walk_nrm
   refine av C ?_
   try walk_nrm
   refine aT C ?_
   co_then
   refine dx C (t:=true) rfl ?_
   simp only[if_true]
   refine aY C (cr C ?_)
   refine av C ?_
   try walk_nrm
   refine av C ?_
   try walk_nrm
   refine av C ?_
   try walk_nrm
   refine aT C ?_
   co_then
   refine BG C ?_
   co_then
   exact Hp _ (0,0,0) rfl rfl rfl rfl (Ma low up s (by omega) _ (ak _)).symm
  ·have hd2:decide ((low.length:Int)≤s)=false:=by simpa using hs2
   refine aY C (cr C ?_)
   refine av C ?_
   try walk_nrm
   refine av C ?_
   try walk_nrm
   refine jj C hp DI ?_
   try walk_nrm
   refine av C ?_
   try walk_nrm
   refine dQ C (v := ?v37) rfl (by rfl) (fun w=>run_eq_of fun K hK => ?r37) (fun w => ?e37) ?h37
   case r37=>go_simp; exact hK
   case e37=>simp[go_sem,Op.unary]
   try walk_nrm
   refine av C ?_
   try walk_nrm
   refine av C ?_
   try walk_nrm
   refine av C ?_
   try walk_nrm
   refine av C ?_
   try walk_nrm
   refine jj C hp Lr ?_
   try walk_nrm
   refine av C ?_
   try walk_nrm
   refine av C ?_
   try walk_nrm
   refine av C ?_
   try walk_nrm
   refine aT C ?_
   co_then
   refine dx C (t:=false) rfl ?_
   simp only[aF,if_false]
   refine ki C ?_
   co_then
   refine aY C (aY C (cr C ?_))
   refine av C ?_
   try walk_nrm
   refine jj C hp DI ?_
   try walk_nrm
   refine av C ?_
   try walk_nrm
   refine av C ?_
   try walk_nrm
   refine aT C ?_
   co_then
   refine gH C ?_
   refine oy C (fun n γ' a w'=>γ'=(p,γ2)∧w'=W∧∃ k,k≤up.length∧n=up.length-k∧∃ u,a=acA ua lb A B ca cb low up s bA bB (A1 low up s k) k u) (n:=up.length) ⟨rfl,rfl,0,by omega,by omega,oG rfl⟩ ?_
   rintro n γ' a w' ⟨hγ,hw',k,hk,hn,u,ha⟩
   subst hγ hw'
   have hN:=Mb low up s k
   have hS:=sL low up s k
   have hSk:∀ r,Jp low up s (A1 low up s k) k=r→A1 low up s (k+1)=r:=fun r h=>hS.trans h
   clear hS
   have ab5:k=up.length→uQ low up s=A1 low up s k:=fun h=>by rw[h]; rfl
   generalize A1 low up s k=st at *
   unfold acA at ha
   subst ha
   refine aY C (cr C ?_)
   by_cases hlt:k<up.length
   ·have hd3:decide ((k:Int)<(up.length:Int))=true:=by simpa using hlt
    obtain⟨x,hx⟩:∃ x,up[k]? = some x:=⟨_,bH hlt⟩
    obtain⟨bd,hBe,hsB⟩:=hB k x hx
    subst hBe
    have hxb:=Uo.2 k x hx
    have YX:IntKind.i64.wrap ((k:Int)+s)=(k:Int)+s:=by rw[vn]<;>omega
    have hw5:IntKind.i64.wrap ((k:Int)+1)=(k:Int)+1:=by rw[vn]<;>omega
    have hgx:up.getD k 0=x:=by simp[List.getD,hx]
    refine av C ?_
    try walk_nrm
    refine aT C ?_
    co_then
    refine aY C (dx C (t:=true) rfl ?_)
    simp only[if_true]
    refine ki C ?_
    co_then
    refine aY C (gH C (aY C (cr C ?_)))
    refine av C ?_
    try walk_nrm
    refine av C ?_
    try walk_nrm
    refine jj C hp hsB ?_
    try walk_nrm
    refine av C ?_
    try walk_nrm
    refine av C ?_
    try walk_nrm
    refine aT C ?_
    co_then
    refine aY C (cr C ?_)
    refine av C ?_
    try walk_nrm
    refine av C ?_
    try walk_nrm
    refine av C ?_
    try walk_nrm
    refine av C ?_
    try walk_nrm
    refine aT C ?_
    co_then
    refine aY C (aY C (cr C ?_))
    by_cases GB:(k:Int)+s<0
    ·have UW:decide ((k:Int)+s<0)=true:=by simpa using GB
     refine av C ?_
     try walk_nrm
     refine av C ?_
     try walk_nrm
     refine av C ?_
     try walk_nrm
     refine cW C rfl (by rfl) ?_
     try walk_nrm
     refine cW C rfl (by rfl) ?_
     try walk_nrm
     refine cW C rfl (by rfl) ?_
     try walk_nrm
     refine cW C rfl (by rfl) ?_
     try walk_nrm
     refine cW C rfl (by rfl) ?_
     try walk_nrm
     refine av C ?_
     try walk_nrm
     refine aT C ?_
     co_then
     refine dx C (t:=true) rfl ?_
     simp only[if_true]
     refine nD C ?_
     co_then
     have hst:Jp low up s st k=st:=by unfold Jp; rw[if_pos (.inl GB)]
     refine cr C ?_
     refine av C ?_
     try walk_nrm
     refine av C ?_
     try walk_nrm
     refine aT C (eB ?_)
     refine⟨up.length-(k+1),by omega,rfl,rfl,k+1,by omega,rfl,oG ?_⟩
     rw[hSk _ hst]
     rfl
    ·have UW:decide ((k:Int)+s<0)=false:=by simpa using GB
     by_cases x5:(low.length:Int)≤(k:Int)+s
     ·have hd5:decide ((low.length:Int)≤(k:Int)+s)=true:=by simpa using x5
      refine av C ?_
      try walk_nrm
      refine av C ?_
      try walk_nrm
      refine av C ?_
      try walk_nrm
      refine av C ?_
      try walk_nrm
      refine av C ?_
      try walk_nrm
      refine jj C hp Lr ?_
      try walk_nrm
      refine av C ?_
      try walk_nrm
      refine av C ?_
      try walk_nrm
      refine av C ?_
      try walk_nrm
      refine aT C ?_
      co_then
      refine dx C (t:=true) rfl ?_
      simp only[if_true]
      refine nD C ?_
      co_then
      have hst:Jp low up s st k=st:=by unfold Jp; rw[if_pos (.inr x5)]
      refine cr C ?_
      refine av C ?_
      try walk_nrm
      refine av C ?_
      try walk_nrm
      refine aT C (eB ?_)
      refine⟨up.length-(k+1),by omega,rfl,rfl,k+1,by omega,rfl,oG ?_⟩
      rw[hSk _ hst]
      rfl
     ·have hd5:decide ((low.length:Int)≤(k:Int)+s)=false:=by simpa using x5
      refine av C ?_
      try walk_nrm
      refine av C ?_
      try walk_nrm
      refine av C ?_
      try walk_nrm
      refine av C ?_
      try walk_nrm
      refine av C ?_
      try walk_nrm
      refine jj C hp Lr ?_
      try walk_nrm
      refine av C ?_
      try walk_nrm
      refine av C ?_
      try walk_nrm
      refine av C ?_
      try walk_nrm
      refine aT C ?_
      co_then
      refine dx C (t:=false) rfl ?_
      simp only[aF,if_false]
      refine ki C ?_
      co_then
      obtain⟨y,hy⟩:∃ y,low[((k:Int)+s).toNat]? = some y:=⟨_,bH (by omega)⟩
      obtain⟨al,hAe,hsA⟩:=hA _ y hy
      subst hAe
      have hyb:=Pe.2 _ y hy
      have hw4:IntKind.i64.wrap (x+y)=x+y:=by rw[vn]<;>omega
      have hw6:IntKind.i64.wrap (st.2.2+1)=st.2.2+1:=by rw[vn]<;>omega
      have hgy:low.getD ((k:Int)+s).toNat 0=y:=by simp[List.getD,hy]
      have A5:0≤(k:Int)+s:=by omega
      have hi1:(k:Int)+s<(low.length:Int):=by omega
      refine aY C (cr C ?_)
      refine av C ?_
      try walk_nrm
      refine av C ?_
      try walk_nrm
      refine jj C hp Lr ?_
      try walk_nrm
      refine av C ?_
      try walk_nrm
      refine av C ?_
      try walk_nrm
      refine jj C hp hsA ?_
      try walk_nrm
      refine av C ?_
      try walk_nrm
      refine av C ?_
      try walk_nrm
      refine aT C ?_
      co_then
      refine aY C (aY C (cr C ?_))
      have ZG:st.2.2=0→Jp low up s st k=(x+y,x+y,1):=by
       intro h0
       unfold Jp
       rw[if_neg (by omega),if_pos h0,hgx,hgy]
      have ZF:st.2.2≠0→Jp low up s st k=(if x+y<st.1 then x+y else st.1,if st.2.1<x+y then x+y else st.2.1,st.2.2+1):=by
       intro h0
       unfold Jp
       rw[if_neg (by omega),if_neg h0,hgx,hgy]
      clear ab5
      obtain⟨s1,s2,s3⟩:=st
      simp only at *
      by_cases UX:s3=0
      ·subst UX
       have hst:=ZG rfl
       clear ZG ZF
       refine av C ?_
       try walk_nrm
       refine av C ?_
       try walk_nrm
       refine aT C ?_
       co_then
       refine dx C (t:=true) rfl ?_
       simp only[if_true]
       refine cr C ?_
       refine av C ?_
       try walk_nrm
       refine av C ?_
       try walk_nrm
       refine av C ?_
       try walk_nrm
       refine av C ?_
       try walk_nrm
       refine aT C ?_
       co_then
       refine cr C ?_
       refine av C ?_
       try walk_nrm
       refine av C ?_
       try walk_nrm
       refine dQ C (v := ?abQ) rfl (by rfl) (fun w=>run_eq_of fun K hK => ?r102) (fun w => ?e102) ?afO
       case r102=>go_simp; exact hK
       case e102=>simp[go_sem,rJ]
       try walk_nrm
       refine av C ?_
       try walk_nrm
       refine av C ?_
       try walk_nrm
       refine dQ C (v := ?v105) rfl (by rfl) (fun w=>run_eq_of fun K hK => ?r105) (fun w => ?e105) ?afN
       case r105=>go_simp; exact hK
       case e105=>simp[go_sem,rK]
       try walk_nrm
       refine av C ?_
       try walk_nrm
       refine av C ?_
       try walk_nrm
       refine av C ?_
       try walk_nrm
       refine av C ?_
       try walk_nrm
       refine av C ?_
       try walk_nrm
       refine aT C ?_
       co_then
       refine cr C ?_
       refine av C ?_
       try walk_nrm
       refine av C ?_
       try walk_nrm
       refine aT C (eB ?_)
       refine⟨up.length-(k+1),by omega,rfl,rfl,k+1,by omega,rfl,oG ?_⟩
       rw[hSk _ hst]
       rfl
      ·have hd6:decide (s3=0)=false:=by simpa using UX
       have afJ:(s3==0)=false:=by simpa using UX
       have hst:=ZF UX
       clear ZG ZF
       refine av C ?_
       try walk_nrm
       refine av C ?_
       try walk_nrm
       refine aT C ?_
       co_then
       refine dx C (t:=false) rfl ?_
       simp only[aF,if_false]
       refine ki C ?_
       co_then
       refine cr C ?_
       refine av C ?_
       try walk_nrm
       refine av C ?_
       try walk_nrm
       refine dQ C (v := ?v117) rfl (by rfl) (fun w=>run_eq_of fun K hK => ?r117) (fun w => ?e117) ?afM
       case r117=>go_simp; exact hK
       case e117=>simp[go_sem,rJ]
       try walk_nrm
       refine av C ?_
       try walk_nrm
       refine av C ?_
       try walk_nrm
       refine dQ C (v := ?afA) rfl (by rfl) (fun w=>run_eq_of fun K hK => ?r120) (fun w => ?e120) ?afL
       case r120=>go_simp; exact hK
       case e120=>simp[go_sem,rK]
       try walk_nrm
       refine av C ?_
       try walk_nrm
       refine av C ?_
       try walk_nrm
       refine av C ?_
       try walk_nrm
       refine av C ?_
       try walk_nrm
       refine av C ?_
       try walk_nrm
       refine aT C ?_
       co_then
       refine cr C ?_
       refine av C ?_
       try walk_nrm
       refine av C ?_
       try walk_nrm
       refine aT C (eB ?_)
       refine⟨up.length-(k+1),by omega,rfl,rfl,k+1,by omega,rfl,oG ?_⟩
       rw[hSk _ hst]
       rfl
   ·have Lf:k=up.length:=by omega
    subst Lf
    have hd3:decide ((up.length:Int)<(up.length:Int))=false:=by simp
    refine av C ?_
    try walk_nrm
    refine aT C ?_
    co_then
    refine aY C (dx C (t:=false) rfl ?_)
    simp only[aF,if_false]
    refine nD C ?_
    co_then
    refine aY C (cr C ?_)
    refine av C ?_
    try walk_nrm
    refine av C ?_
    try walk_nrm
    refine av C ?_
    try walk_nrm
    refine av C ?_
    try walk_nrm
    refine av C ?_
    try walk_nrm
    refine av C ?_
    try walk_nrm
    refine aT C ?_
    co_then
    refine BG C ?_
    exact Hp _ st rfl rfl rfl rfl (ab5 rfl).symm
end Go.Co
end
section
namespace Go.Co
open Go Go.Conc
variable {P:Program} {main:Bool} {K:Gm→Goroutine→World→Prop} {fn:FuncId} {p:Pc} {γ:So} {Q:Gm→Exit→Act→World→Prop} {a:Act} {w:World} {ops:Array Oper} {i:Nat} {rest:List Nat} {o:Oper}
def kQ (γ:So) (w:World) (B:Nat) (e:TypeId) (size:Nat) (v:Value) (n:Nat) (xs:List Value):Prop:=w.ownsRow B e size v n xs∧∀ b,v.ownBlock=some b→γ.2 b
theorem kQ.nil (B:Nat) (e:TypeId) (size:Nat):kQ γ w B e size (.slice none 0 0) 0 []:=⟨World.ownsRow_nil _ _ _ _,fun b h=>by simp[Value.ownBlock] at h⟩
theorem CG {w w1:World} {B:Nat} {e:TypeId} {size:Nat} {v:Value} {n:Nat} {xs:List Value} (h:w.ownsRow B e size v n xs) (hb:∀ b,v.ownBlock=some b→w1.heap[b]? = w.heap[b]?):w1.ownsRow B e size v n xs:=by
 refine⟨h.1,h.2.imp id fun⟨g,cap,cur,hv,h0,hg,hr⟩=>⟨g,cap,cur,hv,h0,?_,hr⟩⟩
 rw[hb g (by rw[hv]; rfl)]
 exact hg
theorem kQ.rely {B:Nat} {e:TypeId} {size:Nat} {v:Value} {n:Nat} {xs:List Value} {w1:World} (h:kQ γ w B e size v n xs) (r:jd γ w w1):kQ γ w1 B e size v n xs :=
 ⟨CG h.1 fun b hb=>r.2.1 b (.inr (h.2 b hb)),h.2⟩
theorem kQ.kept {B:Nat} {e:TypeId} {size:Nat} {v:Value} {n:Nat} {xs:List Value} {γ':So} {w':World} (h:kQ γ w B e size v n xs) (k:Kept γ w γ' w'):kQ γ' w' B e size v n xs :=
 ⟨CG h.1 fun b hb=>k.blk b (.inr (h.2 b hb)) (h.1.lt b hb).2,fun b hb=>k.own b (h.2 b hb)⟩
theorem kQ.sees {B:Nat} {e:TypeId} {size:Nat} {g n cap:Nat} {xs:List Value} (h:kQ γ w B e size (.slice (some ⟨g,0,none⟩) n cap) n xs) {j:Nat} {u:Value} (hu:xs[j]? = some u):bE γ w ((⟨g,0,none⟩:Addr).add j) u :=
 ⟨.inr (by rw[addBlock]; exact h.2 g rfl),h.1.cells (g:=g) rfl j u hu⟩
theorem kQ.more {B B':Nat} {e:TypeId} {size:Nat} {v:Value} {n:Nat} {xs:List Value} (h:kQ γ w B e size v n xs) (hB:B'≤B):kQ γ w B' e size v n xs :=
 ⟨⟨h.1.1,h.1.2.imp id fun⟨g,cap,cur,hv,h0,hg⟩=>⟨g,cap,cur,hv,aS hB h0,hg⟩⟩,h.2⟩
theorem kQ.EU {B:Nat} {v:Value} {l:List Int} (h:kQ γ w B 3 1 v l.length (l.map fun x => .int .i64 x)):xZ γ w v l:=by
 rcases h.1.2 with ⟨rfl,h0⟩ | ⟨g,cap,cur,rfl,-,-,-⟩
 ·have:l=[]:=eF h0
  subst this
  exact⟨none,0,rfl,fun i x hx=>by simp at hx⟩
 ·exact⟨some ⟨g,0,none⟩,cap,rfl,fun i x hx=>⟨_,rfl,h.sees (by simp[hx])⟩⟩
theorem Kept.append {γ0 γ':So} {w0 w':World} {v:Value} (k:Kept γ0 w0 γ w) (h1:γ'.1=γ.1) (h2:∀ b,γ.2 b→γ'.2 b) (h3:w.heap.size≤w'.heap.size)
  (h4:∀ b,γ.all b→b<w.heap.size→some b≠v.ownBlock→w'.heap[b]? = w.heap[b]?) (h5:w'.os=w.os∧w'.output=w.output) (hb:∀ b,v.ownBlock=some b→w0.heap.size≤b):Kept γ0 w0 γ' w' :=
 ⟨h1.trans k.shr,fun b hb=>h2 b (k.own b hb),fun b fA hlt=>(h4 b (k.all fA) (cH hlt k.size) fun e=>by have:=hb b e.symm; omega).trans (k.blk b fA hlt),aS k.size h3,h5.1.trans k.env.1,h5.2.trans k.env.2⟩
theorem Ex (C:KC P main K Az E1) (hp:p ≠ .ret) {s x:Operand} {t e:TypeId} {info:TypeInfo} {z:Value} {size bytes:Nat} {v:Value} {n:Nat} {xs:List Value} {ad:Addr} {m c:Nat} {news:List Value}
  (ho:ops[i]? = some o) (hw:Region.wanted o (yielded ops a.tmps)=true) (hop:o.op = .call { callee := .builtin .append,args:=#[s,x],argTypes:=#[t,t] })
  (ht:P.underlying t=some (.slice e)) (hi:P.info? e=some info) (hz:info.zero=some z) (zo:info.size=size) (hby:info.bytes=bytes) (O8:z.cells.size=size) (hsz:0<size)
  (hs:a.eval s=v) (hx:a.eval x = .slice (some ad) m c) {B:Nat} (hB:B≤w.heap.size) (fD:kQ γ w B e size v n xs) (hl:news.length=m*size) (lT:∀ (j:Nat) (u:Value),news[j]? = some u→bE γ w (ad.add j) u) (had:γ.all ad.block) (h1:∀ u∈news,u.oneCell'=true)
  (h63:n+m≤maxLen) (lV:(n+m)*bytes≤140737488355328)
  (h:∀ v' w' s',s'.1=γ.1→(∀ b,γ.2 b→s'.2 b)→w.heap.size≤w'.heap.size→(∀ b,γ.all b→b<w.heap.size→some b≠v.ownBlock→w'.heap[b]? = w.heap[b]?)→(w'.os=w.os∧w'.output=w.output)→kQ s' w' B e size v' (n+m) (xs++news)→KO K fn (p,s') ops rest Q (a.put o.dst v') w'):KO K fn (p,γ) ops (i::rest) Q a w:=by
 refine J7 C hp ho hw fun w₁ r => ?_
 have D4:=fD.rely r
 have BH:∀ (j:Nat) (u:Value),news[j]? = some u→w₁.cell? (ad.add j)=some u:=fun j u hu=>((lT j u hu).rely r).2
 obtain⟨v',w',hrun,QC,hg,-⟩:=run_append_own (P:=P) (w:=w₁) B t o.type e info z size bytes ht hi hz zo hby O8 hsz v n xs D4.1 ad m c news hl BH h1 h63 lV (aS hB r.1)
 have tC:=events_append_where (P:=P) w₁ B t o.type e info z size bytes ht hi hz zo hby v n xs D4.1 ad m c news hl BH h1 h63 lV
 have hO:∀ b,some b=v.ownBlock→γ.2 b:=fun b hb=>fD.2 b hb.symm
 have hblk:∀ b,γ.all b→b<w.heap.size→some b≠v.ownBlock→w'.heap[b]? = w.heap[b]? := fun b hb hlt hne=>(hg.block b (cH hlt r.1) hne).trans (r.2.1 b hb)
 have QJ:∀ b,v'.ownBlock=some b→γ.2 b∨(w₁.heap.size≤b∧b<w'.heap.size):=by
  intro b hb
  by_cases hlt:b<w₁.heap.size
  ·by_cases hv:some b=v.ownBlock
   ·exact .inl (hO b hv)
   ·
    left
    subst zo
    subst hby
    have afq:n+m≤9223372036854775807:=by simp only[maxLen] at h63; omega
    rcases D4.1.2 with ⟨rfl,rfl⟩ | ⟨g,cap,cur,rfl,hbg,hgg,hnc,hcm,oJ,LG⟩
    ·by_cases hm:m=0
     ·subst hm
      have GM:xs=[]:=eF (by simpa using D4.1.1)
      have tA:news=[]:=eF (by simpa using hl)
      subst GM
      subst tA
      rcases QC.2 with ⟨rfl,_⟩ | ⟨g,cap,cur,rfl,-,-,-⟩
      ·simp[Value.ownBlock] at hb
      ·have:(Builtin.append_ #[t,t] o.type #[.slice none 0 0,.slice (some ad) 0 c]).run P w₁ = .ok (.slice none 0 0) w₁:=by
        simp[Builtin.append_,run_underlying ht,sizeOf,typeInfo,hi,Builtin.lenOf,Builtin.firstCells,loadCells,loadCellsFrom]
       rw[this] at hrun
       cases hrun
     ·have hr:=run_append_nil (P:=P) w₁ t o.type e info z ht hi hz ad m c news hl BH (by omega) (by omega) (by have hb:=lV; simp only[gy] at hb; omega)
      rw[hr] at hrun
      cases hrun
      simp[Value.ownBlock] at hb
      omega
    ·by_cases hroom:n+m≤cap
     ·have uE:n*info.size+news.length≤cur.size:=by rw[hl,oJ,← jL]; exact eU _ hroom
      have hr:=run_append_room (P:=P) w₁ t o.type e info ht hi g n cap cur hgg ad m c news hl BH h1 hroom uE
      rw[hr] at hrun
      cases hrun
      exact absurd hb.symm hv
     ·have holds:∀ (j:Nat) (u:Value),xs[j]? = some u→w₁.cell? ((⟨g,0,none⟩:Addr).add j)=some u:=D4.1.cells (g:=g) rfl
      have hr:=run_append_grow (P:=P) w₁ t o.type e info z ht hi hz ⟨g,0,none⟩ n cap xs D4.1.1 holds ad m c news hl BH (by omega) (by omega) (growslice_fits (by omega) lV)
      rw[hr] at hrun
      cases hrun
      simp[Value.ownBlock] at hb
      omega
  ·exact .inr ⟨by omega,(QC.lt b hb).2⟩
 refine⟨v',w',(γ.1,fun b=>γ.2 b∨(w₁.heap.size≤b∧b<w'.heap.size)),?_,⟨rfl,fun b=>Iff.rfl,hg.size,fun b hb hn=>hg.block b hb fun e=>hn (hO b e),hg.tape,hg.os,hg.output,fun e he => ?_⟩,h v' w' _ rfl (fun b hb => .inl hb) (aS r.1 hg.size) hblk ⟨hg.os.trans r.2.2.2.1,hg.output.trans r.2.2.2.2⟩ ⟨QC,QJ⟩⟩
 ·unfold execOp
  simp only[hop,resolve,invoke,builtin,Sem.run_bind,Sem.run_pure,Result.andThen_ok,List.map_toArray,bQ,fK,hs,hx,hrun]
 ·have he':=mem_listed he
  rw[events_append_op s x t hop hs hx] at he'
  rcases tC e he' with ⟨b,hb,hr⟩ | hm
  ·obtain⟨l,wr,sy⟩:=e
   simp only at hb hr
   subst hb
   refine .inl ⟨b,wr,sy,rfl,fun hwr => ?_,?_⟩
   ·rcases hr with ⟨h2,-⟩ | h2
    ·rw[hwr] at h2; cases h2
    ·exact .inl (hO _ h2)
   ·rcases hr with ⟨-,h2⟩ | h2
    ·rw[h2]; exact had.imp id .inl
    ·exact .inr (.inl (hO _ h2))
  ·exact .inr hm
open Go.ConcN (sumTo sumTo_upd sumTo_congr le_sumTo upd upd_same upd_ne)
theorem Sc (γ:So) (w:World) (d:Nat):GG γ w γ (w.at d) #[]:=⟨rfl,fun b=>⟨.inl,fun h=>h.elim id fun h=>absurd h.2 (by have:(w.at d).heap.size=w.heap.size:=rfl; omega)⟩,ak _,fun _ _ _=>rfl,rfl,rfl,rfl,by simp⟩
def abU (ops:Array Oper):Bool:=(List.range ops.size).all fun i=>match ops[i]? with | some o=>o.after.all fun e=>decide (e.on<i) | none=>true
theorem aa6 (h:abU ops=true) (i:Nat) (o:Oper) (ho:ops[i]? = some o):∀ e∈o.after,e.on<i:=by
 intro e he
 have h1:=bt.1 h i (by rw[List.mem_range]; exact(aR.1 ho).1)
 rw[ho] at h1
 simp only at h1
 obtain⟨j,hj,rfl⟩:=Array.mem_iff_getElem.1 he
 simpa using Array.all_eq_true.1 h1 j hj
theorem W0 (C:KC P main K Az E1) (hp:p ≠ .ret) (hm:P.follows .mixedOrders=true) {id:Nat} (J:(Nat→Bool)→So→Act→World→Prop)
  (Yv:abU ops=true)
  (h0:∀ w₁,jd γ w w₁→J (fun _=>false) γ a (w₁.at (w₁.drawn+1)))
  (hop:∀ L γ a w i o,J L γ a w→ops[i]? = some o→L i=false→(∀ e∈o.after,Region.binds .any e=true→L e.on=true) →
   ∀ rest,(∀ γ' a' w',J (upd L i true) γ' a' w'→KO K fn (p,γ') ops rest Q a' w')→KO K fn (p,γ) ops (i::rest) Q a w)
  (sj:∀ L γ a w,J L γ a w→(∀ i,i<ops.size→L i=true)→Q (p,γ) .normal a w):KJ K fn (p,γ) (.region id ops true) Q a w:=by
 have pP:=aa6 Yv
 have key:∀ (fuel t:Nat) (listed:Array Bool) (γ:So) (a:Act) (w:World),listed.size=ops.size→sumTo ops.size (fun j=>if listed.getD j true then 0 else 1)=fuel→J (fun j=>listed.getD j false) γ a w →
   KO K fn (p,γ) ops (Region.linearise.go .any ops fuel t listed []) Q a w:=by
  intro fuel
  induction fuel with
  | zero =>
   intro t listed γ a w hsz JI hJ
   refine aT C (sj _ γ a w hJ fun i hi => ?_)
   have h1:=le_sumTo (f:=fun j=>if listed.getD j true then 0 else 1) hi
   rw[JI] at h1
   have h2:listed.getD i true=true:=by
    cases h:listed.getD i true with
    | true=>rfl
    | false=>simp[h] at h1
   simpa [bW (show i<listed.size by omega)] using h2
  | succ fuel ih =>
   intro t listed γ a w hsz JI hJ
   simp only[Region.linearise.go]
   change KO K fn (p,γ) ops (match (Region.ready .any ops listed)[t % (Region.ready .any ops listed).length]? with
    | some i=>Region.linearise.go .any ops fuel (t / (Region.ready .any ops listed).length) (listed.setIfInBounds i true) [i]
    | none=>[].reverse) Q a w
   cases hi:(Region.ready .any ops listed)[t % (Region.ready .any ops listed).length]? with
   | none =>
    have JJ:Region.ready .any ops listed=[]:=by
     cases hr:Region.ready .any ops listed with
     | nil=>rfl
     | cons x xs =>
      rw[hr] at hi
      have hlt:t % (x::xs).length<(x::xs).length:=Nat.mod_lt _ (by simp)
      simp at hi
      simp at hlt
      omega
    refine aT C (sj _ γ a w hJ fun i hi => ?_)
    induction i using Nat.strongRecOn with
    | ind i ihi =>
     have Nh:i<listed.size:=by omega
     cases hb:listed.getD i false with
     | true=>rfl
     | false =>
      have pz:i∈Region.ready .any ops listed:=by
       refine mem_ready.2 ⟨by simpa [bW Nh] using hb,ops[i],bW hi,fun e he _ => ?_⟩
       have hlt:=pP i _ (bW hi) e he
       exact ihi e.on hlt (by omega)
      rw[JJ] at pz
      cases pz
   | some i =>
    simp only[]
    rw[linearise_go_acc,List.reverse_singleton,List.singleton_append]
    have pz:=dA hi
    obtain⟨hun,o,ho,fA⟩:=mem_ready.1 pz
    have hio:i<ops.size:=(aR.1 ho).1
    have Nh:i<listed.size:=by omega
    refine hop _ γ a w i o hJ ho (by simpa [bW Nh] using hun) (fun e he hb=>fA e he hb) _ fun γ' a' w' hJ'=>ih _ _ γ' a' w' (by simpa using hsz) ?_ ?_
    ·have h1:=sumTo_upd (fun j=>listed.getD j true) true (fun b=>if b then 0 else 1) hio
     rw[hun] at h1
     simp only[if_true,aF,if_false] at h1
     have h2:sumTo ops.size (fun j=>if (listed.setIfInBounds i true).getD j true then 0 else 1)=sumTo ops.size fun j=>if upd (fun j=>listed.getD j true) i true j then 0 else 1:=by
      refine sumTo_congr fun j _ => ?_
      by_cases gO:j=i
      ·subst gO
       rw[upd_same]
       simp[ko Nh]
      ·rw[upd_ne _ _ gO,getD_set_ne true (Ne.symm gO)]
     rw[h2]
     omega
    ·have h2:(fun j=>(listed.setIfInBounds i true).getD j false)=upd (fun j=>listed.getD j false) i true:=by
      funext j
      by_cases gO:j=i
      ·subst gO
       rw[upd_same]
       simp[ko Nh]
      ·rw[upd_ne _ _ gO,getD_set_ne false (Ne.symm gO)]
     rw[h2]
     exact hJ'
 intro b k cs hb hk hc
 refine C.step _ _ _ _ fun w1 r => ?_
 have hgo:=stepG_region_draw (P:=P) (main:=main) (b:=b) (a:=a) (k:=k) (cs:=cs) (w:=w1) (id:=id) (ops:=ops)
 simp only[Region.schedule,hm,Bool.true_or,if_true] at hgo
 refine⟨_,_,_,_,(p,γ),hgo,stg hp (Sc γ w1 _),?_⟩
 refine key ops.size _ _ γ a _ (by simp) ?_ ?_ b k cs hb hk hc
 ·clear key h0 hop sj pP Yv
  have:∀ n,n≤ops.size→sumTo n (fun j=>if (Array.replicate ops.size false).getD j true then 0 else 1)=n:=by
   intro n
   induction n with
   | zero=>intro _; rfl
   | succ n ih =>
    intro hn
    simp only[sumTo]
    rw[ih (by omega)]
    have hlt:n<ops.size:=by omega
    simp[hlt]
  exact this _ (ak _)
 ·have h3:(fun j=>(Array.replicate ops.size false).getD j false)=fun _=>false:=by
   funext j
   by_cases hj:j<ops.size
   ·simp[hj]
   ·simp[hj]
  rw[h3]
  exact h0 w1 (UK hp r)
end Go.Co
end
