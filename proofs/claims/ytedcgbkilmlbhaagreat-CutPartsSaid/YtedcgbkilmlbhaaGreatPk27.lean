import Derived.Test.YtedcgbkilmlbhaaGreatPk23
import Derived.Test.YtedcgbkilmlbhaaGreatChecked
section
namespace Go.Co
open Go Go.Conc
open Go.ConcN (sumTo sumTo_upd sumTo_congr le_sumTo upd upd_same upd_ne)
open Classical
variable {cf cl:Nat} {tv z z2:Value} {od:Bool}
def wk (cf cl:Nat) (tv:Value):List Value→Pc
 | [] => .send cl tv .stop
 | v::vs => .send cf v (wk cf cl tv vs)
def EK (cf cl:Nat) (z2:Value) (od:Bool):Nat→Pc
 | 0 => .close cf .stop
 | k+1 => .recv cl od z2 fun x=>match x with | some _=>EK cf cl z2 od k | none => .bad
noncomputable def Si (cf:Nat) (z:Value):Nat→List Value→Pc
 | 0,_ => .recv cf true z fun x=>match x with | some _ => .bad | none => .ret
 | n+1,rem => .recv cf true z fun x=>match x with | some v=>if v∈rem then Si cf z n (rem.erase v) else .bad | none => .bad
noncomputable def y7 (cf:Nat) (z:Value) (rem:List Value):Pc:=Si cf z rem.length rem
def chain (cf cl:Nat) (tv z2:Value) (od:Bool) (K:Nat) (p:Pc):List (List Value)→Pc
 | [] => .go (EK cf cl z2 od K) p
 | vs::todo => .go (wk cf cl tv vs) (chain cf cl tv z2 od K p todo)
inductive Ro where
 | gone
 | work (vs:List Value)
def Ro.pc (cf cl:Nat) (tv:Value):Ro→Pc
 | gone => .stop
 | work vs=>wk cf cl tv vs
def Ro.vals:Ro→List Value
 | gone=>[]
 | work vs=>vs
def Ro.one:Ro→Nat
 | gone=>0
 | work _=>1
theorem Km (N:Net) (i j:Nat) (k k':Pc):(N.meet i j k k').pr j=k':=upd_same _ _ _
theorem Px (N:Net) (i:Nat) (ch k:Pc):(N.start i ch k).pr N.n=ch:=upd_same _ _ _
theorem Lu:Ro.gone.vals=[]:=rfl
theorem wQ (vs:List Value):(Ro.work vs).vals=vs:=rfl
theorem Qe:Ro.gone.one=0:=rfl
theorem F1 (vs:List Value):(Ro.work vs).one=1:=rfl
theorem ox (vs:List Value):∃ c v k,wk cf cl tv vs = .send c v k∧(c=cf∨c=cl):=by
 cases vs with
 | nil=>exact⟨_,_,_,rfl,.inr rfl⟩
 | cons v vs=>exact⟨_,_,_,rfl,.inl rfl⟩
theorem sC (k:Nat):(∃ p,EK cf cl z2 od k = .recv cl od z2 p)∨EK cf cl z2 od k = .close cf .stop:=by
 cases k with
 | zero=>exact .inr rfl
 | succ k=>exact .inl ⟨_,rfl⟩
theorem sx (rem:List Value):∃ p,y7 cf z rem = .recv cf true z p:=by
 unfold y7
 cases rem.length with
 | zero=>exact⟨_,rfl⟩
 | succ k=>exact⟨_,rfl⟩
theorem GZ (K:Nat) (p:Pc) (todo:List (List Value)):∃ a b,chain cf cl tv z2 od K p todo = .go a b:=by
 cases todo with
 | nil=>exact⟨_,_,rfl⟩
 | cons vs todo=>exact⟨_,_,rfl⟩
theorem Av (r:Ro):(r = .gone∧r.pc cf cl tv = .stop)∨∃ vs,r = .work vs∧r.pc cf cl tv=wk cf cl tv vs:=by
 cases r with
 | gone=>exact .inl ⟨rfl,rfl⟩
 | work vs=>exact .inr ⟨vs,rfl,rfl⟩
theorem aaQ {N:Net} {E:Nat→Prop} (hn:0<N.n) (h0:N.pr 0=y7 cf z []) (hst:∀ j,0<j→j<N.n→N.pr j = .stop) (hc:N.cl cf=some E) (hE:∀ j,0<j→j<N.n→E j):zC (fun c=>c=cf∨c=cl) N:=by
 have MX:N.pr 0 = .recv cf true z fun x=>match x with | some _ => .bad | none => .ret:=h0
 have cB:∀ j,j<N.n→j=0∨N.pr j = .stop:=fun j hj=>(mc j).imp id fun h=>hst j h hj
 refine .step N (fun j hj => ?_) (by rw[MX]; simp) (fun i c v k hi hp => ?_) (fun j c ok z k hj hp => ?_) (.inr (.inr (.inl ⟨0,_,_,_,_,E,hn,MX,hc⟩)))
  (fun i j c v k ok z k' hi hj hp _ => ?_) (fun i c k hi hp => ?_) (fun i c k hi hp => ?_) (fun j c ok z k E' hj hp yF => ?_) (fun i ch k hi hp => ?_)
 ·rcases cB j hj with rfl | h
  ·rw[MX]; simp
  ·rw[h]; simp
 ·rcases cB i hi with rfl | h
  ·rw[MX] at hp; cases hp
  ·rw[h] at hp; cases hp
 ·rcases cB j hj with rfl | h
  ·rw[MX] at hp; cases hp; exact .inl rfl
  ·rw[h] at hp; cases hp
 ·rcases cB i hi with rfl | h
  ·rw[MX] at hp; cases hp
  ·rw[h] at hp; cases hp
 ·rcases cB i hi with rfl | h
  ·rw[MX] at hp; cases hp
  ·rw[h] at hp; cases hp
 ·rcases cB i hi with rfl | h
  ·rw[MX] at hp; cases hp
  ·rw[h] at hp; cases hp
 ·rcases cB j hj with rfl | h
  ·rw[MX] at hp
   cases hp
   rw[hc] at yF
   cases yF
   refine .done _ (show upd N.pr 0 _ 0=_ from upd_same _ _ _) fun j hj kY=>⟨?_,.inr (hE j hj kY)⟩
   show upd N.pr 0 _ j = .stop
   rw[upd_ne _ _ (by omega)]
   exact hst j hj kY
  ·rw[h] at hp; cases hp
 ·rcases cB i hi with rfl | h
  ·rw[MX] at hp; cases hp
  ·rw[h] at hp; cases hp
structure adh (cf cl:Nat) (tv z z2:Value) (od:Bool) (N:Net) (s:Nat→Ro) (jc k:Nat) (rem:List Value):Prop where
 jc0:0<jc
 Zo:jc<N.n
 main:N.pr 0=y7 cf z rem
 BS:N.pr jc=EK cf cl z2 od k
 gone:s jc = .gone
 other:∀ j,0<j→j<N.n→j≠jc→N.pr j=(s j).pc cf cl tv
 zero:s 0 = .gone
 cnt:∀ v,rem.count v=sumTo N.n fun j=>(s j).vals.count v
 live:k=sumTo N.n fun j=>(s j).one
 opn:∀ c,N.cl c=none
 HE:∀ j,0<j→j<N.n→s j = .gone→j≠jc→N.D jc j
theorem pO {f:Nat→Nat} {n:Nat} (h:∀ i,i<n→f i=0):sumTo n f=0:=by
 induction n with
 | zero=>rfl
 | succ n ih=>simp[sumTo,ih fun i hi=>h i (by omega),h n (by omega)]
theorem Lz {f:Nat→Nat} {n:Nat} (h:sumTo n f≠0):∃ i,i<n∧f i≠0:=by
 by_cases hx:∃ i,i<n∧f i≠0
 ·exact hx
 ·exact absurd (pO fun i hi=>by
   by_cases h0:f i=0
   ·exact h0
   ·exact absurd ⟨i,hi,h0⟩ hx) h
theorem aaR (hne:cf≠cl):∀ (M:Nat) (N:Net) (s:Nat→Ro) (jc k:Nat) (rem:List Value),rem.length+k<M→adh cf cl tv z z2 od N s jc k rem→zC (fun c=>c=cf∨c=cl) N:=by
 intro M
 induction M with
 | zero=>exact fun _ _ _ _ _ h=>absurd h (Nat.not_lt_zero _)
 | succ M ih =>
  intro N s jc k rem hM I
  have hn:0<N.n:=cz I.jc0 (Nat.le_of_lt I.Zo)
  obtain⟨pc,K2⟩:=sx (cf:=cf) (z:=z) rem
  have cB:∀ j,j<N.n→j=0∨j=jc∨(0<j∧j≠jc∧((s j = .gone∧N.pr j = .stop)∨∃ vs,s j = .work vs∧N.pr j=wk cf cl tv vs)):=by
   intro j hj
   rcases mc j with rfl | hp
   ·exact .inl rfl
   by_cases hjc:j=jc
   ·exact .inr (.inl hjc)
   refine .inr (.inr ⟨hp,hjc,?_⟩)
   have:=I.other j hp hj hjc
   rcases Av (cf:=cf) (cl:=cl) (tv:=tv) (s j) with ⟨h1,h2⟩ | ⟨vs,h1,h2⟩
   ·exact .inl ⟨h1,this.trans h2⟩
   ·exact .inr ⟨vs,h1,this.trans h2⟩
  have aal:∀ i c v p,i<N.n→N.pr i = .send c v p→0<i∧i≠jc∧((∃ vs,s i = .work (v::vs)∧c=cf∧p=wk cf cl tv vs)∨(s i = .work []∧c=cl∧p = .stop)):=by
   intro i c v p hi hp
   rcases cB i hi with rfl | rfl | ⟨h1,h2,⟨h3,h4⟩ | ⟨vs,h3,h4⟩⟩
   ·rw[I.main,K2] at hp; cases hp
   ·rw[I.BS] at hp
    rcases sC (cf:=cf) (cl:=cl) (z2:=z2) (od:=od) k with ⟨p',h⟩ | h<;>rw[h] at hp<;>cases hp
   ·rw[h4] at hp; cases hp
   ·refine⟨h1,h2,?_⟩
    rw[h4] at hp
    cases vs with
    | nil=>cases hp; exact .inr ⟨h3,rfl,rfl⟩
    | cons v' vs=>cases hp; exact .inl ⟨vs,h3,rfl,rfl⟩
  have WU:∀ j c ok z' p,j<N.n→N.pr j = .recv c ok z' p→(j=0∧c=cf)∨(j=jc∧c=cl):=by
   intro j c ok z' p hj hp
   rcases cB j hj with rfl | rfl | ⟨h1,h2,⟨h3,h4⟩ | ⟨vs,h3,h4⟩⟩
   ·rw[I.main,K2] at hp; cases hp; exact .inl ⟨rfl,rfl⟩
   ·rw[I.BS] at hp
    rcases sC (cf:=cf) (cl:=cl) (z2:=z2) (od:=od) k with ⟨p',h⟩ | h<;>rw[h] at hp<;>cases hp
    exact .inr ⟨rfl,rfl⟩
   ·rw[h4] at hp; cases hp
   ·rw[h4] at hp
    obtain⟨_,_,_,h,_⟩:=ox (cf:=cf) (cl:=cl) (tv:=tv) vs
    rw[h] at hp; cases hp
  have aaw:∀ j c p,j<N.n→N.pr j = .close c p→j=jc∧c=cf∧p = .stop∧k=0:=by
   intro j c p hj hp
   rcases cB j hj with rfl | rfl | ⟨h1,h2,⟨h3,h4⟩ | ⟨vs,h3,h4⟩⟩
   ·rw[I.main,K2] at hp; cases hp
   ·rw[I.BS] at hp
    cases k with
    | zero=>cases hp; exact⟨rfl,rfl,rfl,rfl⟩
    | succ k=>cases hp
   ·rw[h4] at hp; cases hp
   ·rw[h4] at hp
    obtain⟨_,_,_,h,_⟩:=ox (cf:=cf) (cl:=cl) (tv:=tv) vs
    rw[h] at hp; cases hp
  have hgo:∀ j a p,j<N.n→N.pr j ≠ .go a p:=by
   intro j a p hj hp
   rcases cB j hj with rfl | rfl | ⟨h1,h2,⟨h3,h4⟩ | ⟨vs,h3,h4⟩⟩
   ·rw[I.main,K2] at hp; cases hp
   ·rw[I.BS] at hp
    rcases sC (cf:=cf) (cl:=cl) (z2:=z2) (od:=od) k with ⟨p',h⟩ | h<;>rw[h] at hp<;>cases hp
   ·rw[h4] at hp; cases hp
   ·rw[h4] at hp
    obtain⟨_,_,_,h,_⟩:=ox (cf:=cf) (cl:=cl) (tv:=tv) vs
    rw[h] at hp; cases hp
  have adB:=I.jc0
  refine .step N (fun j hj => ?_) (by rw[I.main,K2]; simp) (fun i c v p hi hp=>⟨I.opn c,?_⟩) (fun j c ok z' p hj hp => ?_) ?_
   (fun i j c v p ok z' p' hi hj hp hq => ?_) (fun i c p hi hp=>⟨I.opn c,.inl (aaw i c p hi hp).2.1⟩) (fun i c p hi hp => ?_) (fun j c ok z' p E' hj hp yF => ?_) (fun i ch p hi hp=>absurd hp (hgo i ch p hi))
  ·rcases cB j hj with rfl | rfl | ⟨h1,h2,⟨h3,h4⟩ | ⟨vs,h3,h4⟩⟩
   ·rw[I.main,K2]; simp
   ·rw[I.BS]
    rcases sC (cf:=cf) (cl:=cl) (z2:=z2) (od:=od) k with ⟨p',h⟩ | h<;>rw[h]<;>simp
   ·rw[h4]; simp
   ·rw[h4]
    obtain⟨_,_,_,h,_⟩:=ox (cf:=cf) (cl:=cl) (tv:=tv) vs
    rw[h]; simp
  ·rcases (aal i c v p hi hp).2.2 with ⟨_,_,h,_⟩ | ⟨_,h,_⟩
   ·exact .inl h
   ·exact .inr h
  ·rcases WU j c ok z' p hj hp with ⟨_,h⟩ | ⟨_,h⟩
   ·exact .inl h
   ·exact .inr h
  ·
   by_cases hk:k=0
   ·exact .inr (.inl ⟨jc,cf,.stop,I.Zo,by rw[I.BS,hk]; rfl⟩)
   ·obtain⟨i,hi,WX⟩:=Lz (f:=fun j=>(s j).one) (n:=N.n) (by rw[← I.live]; exact hk)
    obtain⟨k',rfl⟩:=Nat.exists_eq_succ_of_ne_zero hk
    rcases cB i hi with rfl | rfl | ⟨h1,h2,⟨h3,h4⟩ | ⟨vs,h3,h4⟩⟩
    ·simp[I.zero,Ro.one] at WX
    ·simp[I.gone,Ro.one] at WX
    ·simp[h3,Ro.one] at WX
    ·cases vs with
     | nil=>exact .inl ⟨i,jc,cl,_,_,_,_,_,hi,I.Zo,h4,I.BS⟩
     | cons v vs=>exact .inl ⟨i,0,cf,_,_,_,_,_,hi,hn,h4,by rw[I.main]; exact K2⟩
  ·
   obtain⟨zB,W4,hs⟩:=aal i c v p hi hp
   rcases hs with ⟨vs,hs,rfl,rfl⟩ | ⟨hs,rfl,rfl⟩
   ·
    obtain rfl:j=0:=by
     rcases WU j _ ok z' p' hj hq with ⟨h,_⟩ | ⟨_,h⟩
     ·exact h
     ·exact absurd h hne
    have hv:v∈rem:=by
     have h1:=I.cnt v
     have h2:=le_sumTo (f:=fun j=>(s j).vals.count v) hi
     simp only[hs,wQ,List.count_cons_self] at h2
     exact List.count_pos_iff.1 (by omega)
    have hlen:rem.length=(rem.erase v).length+1:=by
     rw[List.length_erase_of_mem hv]
     have:=List.length_pos_of_mem hv
     omega
    have qb:p' (some v)=y7 c z (rem.erase v):=by
     have hm:=I.main
     rw[hq] at hm
     unfold y7 at hm
     rw[hlen] at hm
     cases hm
     show (if v∈rem then Si c z (rem.erase v).length (rem.erase v) else .bad)=_
     rw[if_pos hv]
     rfl
    rw[qb]
    refine ih _ (upd s i (.work vs)) jc k (rem.erase v) (by omega) ⟨I.jc0,I.Zo,Km _ _ _ _ _,?_,?_,fun j hj kY BA => ?_,?_,fun v' => ?_,?_,I.opn,fun j hj kY hg BA => ?_⟩
    ·show upd (upd N.pr i _) 0 _ jc=_
     rw[upd_ne _ _ (by omega),upd_ne _ _ (Ne.symm W4)]
     exact I.BS
    ·rw[upd_ne _ _ (Ne.symm W4)]; exact I.gone
    ·show upd (upd N.pr i _) 0 _ j=_
     rw[upd_ne _ _ (by omega)]
     by_cases fH:j=i
     ·subst fH
      rw[upd_same,upd_same]; rfl
     ·rw[upd_ne _ _ fH,upd_ne _ _ fH]
      exact I.other j hj kY BA
    ·rw[upd_ne _ _ (by omega)]; exact I.zero
    ·have h1:=I.cnt v'
     have h2:=sumTo_upd s (.work vs) (fun r=>r.vals.count v') hi
     show (rem.erase v).count v'=sumTo N.n _
     simp only[hs,wQ,List.count_cons] at h2
     rw[List.count_erase]
     split at h2<;>rename_i h3
     ·rw[if_pos h3]; omega
     ·rw[if_neg h3]; omega
    ·have h2:=sumTo_upd s (.work vs) Ro.one hi
     have h1:=I.live
     simp only[hs,F1] at h2
     show k=sumTo N.n _
     omega
    ·by_cases fH:j=i
     ·subst fH; rw[upd_same] at hg; cases hg
     ·rw[upd_ne _ _ fH] at hg
      show if jc=i∨jc=0 then _ else N.D jc j
      rw[if_neg (by omega)]
      exact I.HE j hj kY hg BA
   ·
    obtain rfl:j=jc:=by
     rcases WU j _ ok z' p' hj hq with ⟨_,h⟩ | ⟨h,_⟩
     ·exact absurd h.symm hne
     ·exact h
    obtain⟨k',rfl⟩:∃ k',k=k'+1:=by
     cases k with
     | zero=>rw[I.BS] at hq; cases hq
     | succ k=>exact⟨k,rfl⟩
    have qb:p' (some v)=EK cf c z2 od k':=by
     have:=I.BS
     rw[hq] at this
     cases this
     rfl
    rw[qb]
    refine ih _ (upd s i .gone) j k' rem (by omega) ⟨I.jc0,I.Zo,?_,Km _ _ _ _ _,?_,fun x hx B4 Nf => ?_,?_,fun v' => ?_,?_,I.opn,fun x hx B4 hg Nf => ?_⟩
    ·show upd (upd N.pr i _) j _ 0=_
     rw[upd_ne _ _ (by omega),upd_ne _ _ (by omega)]
     exact I.main
    ·rw[upd_ne _ _ (Ne.symm W4)]; exact I.gone
    ·show upd (upd N.pr i _) j _ x=_
     rw[upd_ne _ _ Nf]
     by_cases YN:x=i
     ·subst YN
      rw[upd_same,upd_same]; rfl
     ·rw[upd_ne _ _ YN,upd_ne _ _ YN]
      exact I.other x hx B4 Nf
    ·rw[upd_ne _ _ (by omega)]; exact I.zero
    ·have h1:=I.cnt v'
     have h2:=sumTo_upd s .gone (fun r=>r.vals.count v') hi
     show rem.count v'=sumTo N.n _
     simp only[hs,wQ,Lu,List.count_nil] at h2
     omega
    ·have h2:=sumTo_upd s .gone Ro.one hi
     have h1:=I.live
     simp only[hs,F1,Qe] at h2
     show k'=sumTo N.n _
     omega
    ·show if j=i∨j=j then _ else _
     rw[if_pos (.inr rfl)]
     by_cases YN:x=i
     ·exact .inr (.inr (.inl ⟨YN,rfl⟩))
     ·rw[upd_ne _ _ YN] at hg
      exact .inr (.inl (I.HE x hx B4 hg Nf))
  ·
   obtain⟨rfl,rfl,rfl,rfl⟩:=aaw i c p hi hp
   have ew:∀ j,j<N.n→s j = .gone:=by
    intro j hj
    have h1:=le_sumTo (f:=fun j=>(s j).one) hj
    rw[← I.live] at h1
    cases h:s j with
    | gone=>rfl
    | work vs=>simp[h,Ro.one] at h1
   have acJ:rem=[]:=by
    cases hr:rem with
    | nil=>rfl
    | cons v vs =>
     have h1:=I.cnt v
     rw[pO fun j hj=>by simp[ew j hj,Ro.vals],hr] at h1
     simp at h1
   subst acJ
   refine aaQ (z:=z) (E:=fun y=>N.D i y∨(y=i∧Pc.stop=Pc.stop)) hn ?_ (fun j hj kY => ?_) (upd_same _ _ _) (fun j hj kY => ?_)
   ·show upd N.pr i _ 0=_
    rw[upd_ne _ _ (by omega)]
    exact I.main
   ·show upd N.pr i _ j=_
    by_cases fH:j=i
    ·subst fH; rw[upd_same]
    ·rw[upd_ne _ _ fH,I.other j hj kY fH,ew j kY]; rfl
   ·by_cases fH:j=i
    ·exact .inr ⟨fH,rfl⟩
    ·exact .inl (I.HE j hj kY (ew j kY) fH)
  ·rw[I.opn c] at yF; cases yF
structure adi (cf cl:Nat) (tv z z2:Value) (od:Bool) (K:Nat) (R:List Value) (N:Net) (s:Nat→Ro) (todo:List (List Value)):Prop where
 n0:0<N.n
 main:N.pr 0=chain cf cl tv z2 od K (y7 cf z R) todo
 other:∀ j,0<j→j<N.n→N.pr j=(s j).pc cf cl tv
 zero:s 0 = .gone
 cnt:∀ v,R.count v=todo.flatten.count v+sumTo N.n fun j=>(s j).vals.count v
 live:K=todo.length+sumTo N.n fun j=>(s j).one
 opn:∀ c,N.cl c=none
 HE:∀ j,0<j→j<N.n→s j = .gone→N.D 0 j
theorem pP {s:Nat→Ro} {r:Ro} {n:Nat} (φ:Ro→Nat):sumTo (n+1) (fun j=>φ (upd s n r j))=sumTo n (fun j=>φ (s j))+φ r:=by
 simp only[sumTo,upd_same]
 rw[sumTo_congr (g:=fun j=>φ (s j)) fun j hj=>by rw[upd_ne _ _ (by omega)]]
theorem aaS (hne:cf≠cl) {K:Nat} {R:List Value}:∀ (todo:List (List Value)) (N:Net) (s:Nat→Ro),adi cf cl tv z z2 od K R N s todo→zC (fun c=>c=cf∨c=cl) N:=by
 intro todo
 induction todo with
 | nil =>
  intro N s I
  have jI:N.pr 0 = .go (EK cf cl z2 od K) (y7 cf z R):=I.main
  have cB:∀ j,j<N.n→j=0∨(0<j∧((s j = .gone∧N.pr j = .stop)∨∃ vs c v k,s j = .work vs∧N.pr j = .send c v k∧(c=cf∨c=cl))):=by
   intro j hj
   refine(mc j).imp id fun hp=>⟨hp,?_⟩
   have:=I.other j hp hj
   rcases Av (cf:=cf) (cl:=cl) (tv:=tv) (s j) with ⟨h1,h2⟩ | ⟨vs,h1,h2⟩
   ·exact .inl ⟨h1,this.trans h2⟩
   ·obtain⟨c,v,k,h3,h4⟩:=ox (cf:=cf) (cl:=cl) (tv:=tv) vs
    exact .inr ⟨vs,c,v,k,h1,(this.trans h2).trans h3,h4⟩
  refine .step N (fun j hj => ?_) (by rw[jI]; simp) (fun i c v p hi hp=>⟨I.opn c,?_⟩) (fun j c ok z' p hj hp => ?_) (.inr (.inr (.inr ⟨0,_,_,I.n0,jI⟩)))
   (fun i j c v p ok z' p' hi hj hp hq => ?_) (fun i c p hi hp => ?_) (fun i c p hi hp => ?_) (fun j c ok z' p E' hj hp yF => ?_) (fun i ch p hi hp => ?_)
  ·rcases cB j hj with rfl | ⟨_,⟨_,h⟩ | ⟨_,_,_,_,_,h,_⟩⟩
   ·rw[jI]; simp
   ·rw[h]; simp
   ·rw[h]; simp
  ·rcases cB i hi with rfl | ⟨_,⟨_,h⟩ | ⟨_,_,_,_,_,h,h'⟩⟩
   ·rw[jI] at hp; cases hp
   ·rw[h] at hp; cases hp
   ·rw[h] at hp; cases hp; exact h'
  ·rcases cB j hj with rfl | ⟨_,⟨_,h⟩ | ⟨_,_,_,_,_,h,_⟩⟩
   ·rw[jI] at hp; cases hp
   ·rw[h] at hp; cases hp
   ·rw[h] at hp; cases hp
  ·rcases cB j hj with rfl | ⟨_,⟨_,h⟩ | ⟨_,_,_,_,_,h,_⟩⟩
   ·rw[jI] at hq; cases hq
   ·rw[h] at hq; cases hq
   ·rw[h] at hq; cases hq
  ·rcases cB i hi with rfl | ⟨_,⟨_,h⟩ | ⟨_,_,_,_,_,h,_⟩⟩
   ·rw[jI] at hp; cases hp
   ·rw[h] at hp; cases hp
   ·rw[h] at hp; cases hp
  ·rcases cB i hi with rfl | ⟨_,⟨_,h⟩ | ⟨_,_,_,_,_,h,_⟩⟩
   ·rw[jI] at hp; cases hp
   ·rw[h] at hp; cases hp
   ·rw[h] at hp; cases hp
  ·rw[I.opn c] at yF; cases yF
  ·rcases cB i hi with rfl | ⟨_,⟨_,h⟩ | ⟨_,_,_,_,_,h,_⟩⟩
   ·rw[jI] at hp
    cases hp
    have hn:=I.n0
    refine aaR (tv:=tv) (z:=z) (z2:=z2) (od:=od) hne (R.length+K+1) _ (upd s N.n .gone) N.n K R (Nat.lt_succ_self _) ⟨hn,Nat.lt_succ_self _,?_,Px _ _ _ _,upd_same _ _ _,fun j hj kY BA => ?_,?_,fun v => ?_,?_,I.opn,fun j hj kY hg BA => ?_⟩
    ·show upd (upd N.pr 0 _) N.n _ 0=_
     rw[upd_ne _ _ (by omega),upd_same]
    ·show upd (upd N.pr 0 _) N.n _ j=_
     have HI:j<N.n:=by
      have:j<N.n+1:=kY
      omega
     rw[upd_ne _ _ BA,upd_ne _ _ (by omega),upd_ne _ _ BA]
     exact I.other j hj HI
    ·rw[upd_ne _ _ (by omega)]; exact I.zero
    ·show R.count v=sumTo (N.n+1) _
     rw[pP (s:=s) (r := .gone) fun r=>r.vals.count v]
     have:=I.cnt v
     simpa [Ro.vals] using this
    ·show K=sumTo (N.n+1) _
     rw[pP (s:=s) (r := .gone) Ro.one]
     have:=I.live
     simpa [Ro.one] using this
    ·show if N.n=N.n then N.D 0 j else _
     rw[if_pos rfl]
     have HI:j<N.n:=by
      have:j<N.n+1:=kY
      omega
     rw[upd_ne _ _ BA] at hg
     exact I.HE j hj HI hg
   ·rw[h] at hp; cases hp
   ·rw[h] at hp; cases hp
 | cons vs todo ih =>
  intro N s I
  have jI:N.pr 0 = .go (wk cf cl tv vs) (chain cf cl tv z2 od K (y7 cf z R) todo):=I.main
  have cB:∀ j,j<N.n→j=0∨(0<j∧((s j = .gone∧N.pr j = .stop)∨∃ vs c v k,s j = .work vs∧N.pr j = .send c v k∧(c=cf∨c=cl))):=by
   intro j hj
   refine(mc j).imp id fun hp=>⟨hp,?_⟩
   have:=I.other j hp hj
   rcases Av (cf:=cf) (cl:=cl) (tv:=tv) (s j) with ⟨h1,h2⟩ | ⟨vs,h1,h2⟩
   ·exact .inl ⟨h1,this.trans h2⟩
   ·obtain⟨c,v,k,h3,h4⟩:=ox (cf:=cf) (cl:=cl) (tv:=tv) vs
    exact .inr ⟨vs,c,v,k,h1,(this.trans h2).trans h3,h4⟩
  refine .step N (fun j hj => ?_) (by rw[jI]; simp) (fun i c v p hi hp=>⟨I.opn c,?_⟩) (fun j c ok z' p hj hp => ?_) (.inr (.inr (.inr ⟨0,_,_,I.n0,jI⟩)))
   (fun i j c v p ok z' p' hi hj hp hq => ?_) (fun i c p hi hp => ?_) (fun i c p hi hp => ?_) (fun j c ok z' p E' hj hp yF => ?_) (fun i ch p hi hp => ?_)
  ·rcases cB j hj with rfl | ⟨_,⟨_,h⟩ | ⟨_,_,_,_,_,h,_⟩⟩
   ·rw[jI]; simp
   ·rw[h]; simp
   ·rw[h]; simp
  ·rcases cB i hi with rfl | ⟨_,⟨_,h⟩ | ⟨_,_,_,_,_,h,h'⟩⟩
   ·rw[jI] at hp; cases hp
   ·rw[h] at hp; cases hp
   ·rw[h] at hp; cases hp; exact h'
  ·rcases cB j hj with rfl | ⟨_,⟨_,h⟩ | ⟨_,_,_,_,_,h,_⟩⟩
   ·rw[jI] at hp; cases hp
   ·rw[h] at hp; cases hp
   ·rw[h] at hp; cases hp
  ·rcases cB j hj with rfl | ⟨_,⟨_,h⟩ | ⟨_,_,_,_,_,h,_⟩⟩
   ·rw[jI] at hq; cases hq
   ·rw[h] at hq; cases hq
   ·rw[h] at hq; cases hq
  ·rcases cB i hi with rfl | ⟨_,⟨_,h⟩ | ⟨_,_,_,_,_,h,_⟩⟩
   ·rw[jI] at hp; cases hp
   ·rw[h] at hp; cases hp
   ·rw[h] at hp; cases hp
  ·rcases cB i hi with rfl | ⟨_,⟨_,h⟩ | ⟨_,_,_,_,_,h,_⟩⟩
   ·rw[jI] at hp; cases hp
   ·rw[h] at hp; cases hp
   ·rw[h] at hp; cases hp
  ·rw[I.opn c] at yF; cases yF
  ·rcases cB i hi with rfl | ⟨_,⟨_,h⟩ | ⟨_,_,_,_,_,h,_⟩⟩
   ·rw[jI] at hp
    cases hp
    have hn:=I.n0
    refine ih _ (upd s N.n (.work vs)) ⟨Nat.succ_pos _,?_,fun j hj kY => ?_,?_,fun v => ?_,?_,I.opn,fun j hj kY hg => ?_⟩
    ·show upd (upd N.pr 0 _) N.n _ 0=_
     rw[upd_ne _ _ (by omega),upd_same]
    ·show upd (upd N.pr 0 _) N.n _ j=_
     by_cases BA:j=N.n
     ·rw[BA,upd_same,upd_same]; rfl
     ·have HI:j<N.n:=by
       have:j<N.n+1:=kY
       omega
      rw[upd_ne _ _ BA,upd_ne _ _ (by omega),upd_ne _ _ BA]
      exact I.other j hj HI
    ·rw[upd_ne _ _ (by omega)]; exact I.zero
    ·show R.count v=_+sumTo (N.n+1) _
     rw[pP (s:=s) (r := .work vs) fun r=>r.vals.count v]
     have:=I.cnt v
     simp only[List.flatten_cons,List.count_append] at this
     show _=_+(_+vs.count v)
     omega
    ·show K=_+sumTo (N.n+1) _
     rw[pP (s:=s) (r := .work vs) Ro.one]
     have:=I.live
     simp only[List.length_cons] at this
     show _=_+(_+1)
     omega
    ·by_cases BA:j=N.n
     ·subst BA; rw[upd_same] at hg; cases hg
     ·have HI:j<N.n:=by
       have:j<N.n+1:=kY
       omega
      rw[upd_ne _ _ BA] at hg
      show if 0=N.n then _ else N.D 0 j
      rw[if_neg (by omega)]
      exact I.HE j hj HI hg
   ·rw[h] at hp; cases hp
   ·rw[h] at hp; cases hp
theorem GC (hne:cf≠cl) (todo:List (List Value)) {n:Nat} (hn:0<n):zC (fun c=>c=cf∨c=cl) (entry n (chain cf cl tv z2 od todo.length (y7 cf z todo.flatten) todo)):=by
 refine aaS (tv:=tv) (z:=z) (z2:=z2) (od:=od) hne todo _ (fun _ => .gone) ⟨hn,rfl,fun j hj kY => ?_,rfl,fun v => ?_,?_,fun _=>rfl,fun j hj kY _=>⟨hj,kY⟩⟩
 ·have:j≠0:=by omega
  simp[entry,this,Ro.pc]
 ·rw[pO fun j hj=>by simp[Ro.vals]]; simp
 ·rw[pO fun j hj=>by simp[Ro.one]]; simp
end Go.Co
end
section
namespace Go.Co
open Go Go.Conc Go.Proofs
variable {aa : Machine → Trace → Prop} {main : Bool} {K : Gm → Goroutine → World → Prop} {p : Pc} {γ : So} {w : World}
def Jd (low up : List Int) (s : Int) (st : Int × Int × Int) (i : Nat) : Int × Int × Int :=
 if (i : Int) + s < 0 ∨ (low.length : Int) ≤ i + s then st
 else if st.2.2 = 0 then (up.getD i 0 + low.getD (i + s).toNat 0, up.getD i 0 + low.getD (i + s).toNat 0, 1)
 else (if up.getD i 0 + low.getD (i + s).toNat 0 < st.1 then up.getD i 0 + low.getD (i + s).toNat 0 else st.1, if st.2.1 < up.getD i 0 + low.getD (i + s).toNat 0 then up.getD i 0 + low.getD (i + s).toNat 0 else st.2.1, st.2.2 + 1)
def Bs (low up : List Int) (s : Int) (k : Nat) : Int × Int × Int := (List.range k).foldl (Jd low up s) (0, 0, 0)
def uM (low up : List Int) (s : Int) : Int × Int × Int := Bs low up s up.length
theorem vw (low up : List Int) (s : Int) (k : Nat) : Bs low up s (k + 1) = Jd low up s (Bs low up s k) k := by simp [Bs, pH]
def Rb (l : List Int) : Prop := l.length ≤ 1000 ∧ ∀ (i : Nat) (x : Int), l[i]? = some x → 0 ≤ x ∧ x ≤ 9
theorem JU (low up : List Int) (s : Int) (k : Nat) : 0 ≤ (Bs low up s k).2.2 ∧ (Bs low up s k).2.2 ≤ k := by
 induction k with
 | zero => simp [Bs]
 | succ k ih =>
  rw [vw]
  unfold Jd
  split
  ·omega
  ·split <;> simp <;> omega
theorem JS (low up : List Int) (s : Int) (h : s ≤ -(up.length : Int) ∨ (low.length : Int) ≤ s) : ∀ k, k ≤ up.length → Bs low up s k = (0, 0, 0) := by
 intro k
 induction k with
 | zero => intro _; rfl
 | succ k ih =>
  intro hk
  rw [vw, ih (by omega)]
  unfold Jd
  rw [if_pos (by omega)]
theorem tn {n : Int} (h : -9223372036854775808 ≤ n) (h' : n ≤ 9223372036854775807) : IntKind.i64.wrap n = n := by rw [IntKind.wrap_i64]; omega
def aaK (ua lb : Value) (A B : Option Addr) (ca cb : Nat) (low up : List Int) (s : Int) (bA bB : Nat) (st : Int × Int × Int) (k : Nat) (u : Nat → Value) : Act :=
 ⟨#[.agg #[ua, .slice A low.length ca], .agg #[.slice B up.length cb, lb], .int .i64 s, .pointer (some ⟨bA, 0, none⟩), .pointer (some ⟨bB, 0, none⟩), u 5, .int .i64 st.1, .int .i64 st.2.1, .int .i64 st.2.2, u 9, u 10, u 11, u 12, u 13, u 14, u 15, u 16, u 17, u 18, u 19, u 20, u 21, u 22, u 23, u 24, u 25, u 26, .slice B up.length cb, .int .i64 up.length, .int .i64 k, u 30, u 31, u 32, u 33, u 34, u 35, u 36, u 37, u 38, u 39, u 40, u 41, u 42, u 43, u 44, u 45, u 46, u 47, u 48, u 49, u 50, u 51, u 52, u 53, u 54, u 55, u 56, u 57, u 58, u 59, u 60, u 61, u 62, u 63, u 64, u 65, u 66, u 67, u 68], []⟩
def Zc (r : Int × Int × Int) : Value := .tuple #[.int .i64 r.1, .int .i64 r.2.1, .int .i64 r.2.2]
set_option maxRecDepth 100000 in
set_option maxHeartbeats 2000000 in
theorem XM (C : KC Tryz.prog main K y8 Dm) (hp : p ≠ .ret) {ua ub la lb : Value} {low up : List Int} (s : Int) (hl : wm γ w la low) (hu : wm γ w ub up) (MR : Rb low) (QY : Rb up) :
  uX K Tryz.prog (p, γ) 78 #[.agg #[ua, la], .agg #[ub, lb], .int .i64 s] w fun γ' v w' => γ'.1 = p ∧ v = Zc (uM low up s) ∧ Kept γ w γ'.2 w' := by
 refine AE Tryz.func78 (by rfl) rfl ?_
 simp only [Tryz.ntmps78, jP, List.length_cons, List.length_nil, Nat.reduceAdd, Nat.reduceSub, Array.replicate_succ, Array.replicate_zero, List.push_toArray, List.append_toArray, List.nil_append, List.cons_append]
 refine aR C (bP C ?_)
 refine nU C hp (ob := ?ob1) rfl (by rfl) (fun w => run_eq_of fun K hK => ?r1) (fun w => ?e1) ?h1
 case r1 => go_simp; exact hK
 case e1 => simp [go_sem]
 intro w1 M8
 try walk_nrm
 have Dg := (hl.rely M8).alloc w1.heap.size (.cells #[ua, la] 91)
 have hu1 := (hu.rely M8).alloc w1.heap.size (.cells #[ua, la] 91)
 have Q2 : bn _ _ ⟨w1.heap.size, 1, none⟩ la := bn.fresh (γ := γ) (w := w1) (cs := #[ua, la]) (t := 91) rfl rfl
 have qA := (Kept.rely M8).trans (Kept.alloc γ w1 w1.heap.size (.cells #[ua, la] 91))
 refine nU C hp (ob := ?ob2) rfl (by rfl) (fun w => run_eq_of fun K hK => ?r2) (fun w => ?e2) ?h2
 case r2 => go_simp; exact hK
 case e2 => simp [go_sem]
 intro w2 MH
 try walk_nrm
 have rG := (Dg.rely MH).alloc w2.heap.size (.cells #[ub, lb] 91)
 have Zv := (hu1.rely MH).alloc w2.heap.size (.cells #[ub, lb] 91)
 have Jm := (Q2.rely MH).alloc w2.heap.size (.cells #[ub, lb] 91)
 have Hx : bn _ _ ⟨w2.heap.size, 0, none⟩ ub := bn.fresh (γ := γ.more w1.heap.size) (w := w2) (cs := #[ub, lb]) (t := 91) rfl rfl
 have Hh := qA.trans ((Kept.rely MH).trans (Kept.alloc _ w2 w2.heap.size (.cells #[ub, lb] 91)))
 refine aj C ?_
 try walk_nrm
 refine aj C ?_
 try walk_nrm
 refine aj C ?_
 try walk_nrm
 refine aM C ?_
 refine aR C ?_
 clear hl hu Dg hu1 Q2 qA MH M8
 generalize (γ.more w1.heap.size).more w2.heap.size = γ2 at *
 generalize w2.alloc (.cells #[ub, lb] 91) = W at *
 generalize w2.heap.size = bB at *
 generalize w1.heap.size = bA at *
 obtain ⟨A, ca, rfl, hA⟩ := rG
 obtain ⟨B, cb, rfl, hB⟩ := Zv
 have Ju := MR.1
 have Oj := QY.1
 have hwa : IntKind.i64.wrap (0 - (up.length : Int)) = -(up.length : Int) := by rw [tn] <;> omega
 have hwb : IntKind.i64.wrap (-(up.length : Int)) = -(up.length : Int) := by rw [tn] <;> omega
 have Ff : ∀ (a : Act) (st : Int × Int × Int), a.defers = [] → a.tmps.getD 6 undef = .int .i64 st.1 → a.tmps.getD 7 undef = .int .i64 st.2.1 → a.tmps.getD 8 undef = .int .i64 st.2.2 → st = uM low up s → JF Tryz.prog Tryz.f78 (fun (γ' : Gm) (v : Value) (w' : World) => γ'.1 = p ∧ v = Zc (uM low up s) ∧ Kept γ w γ'.2 w') (p, γ2) .ret a W := by
  intro a st hd h6 h7 h8 hst
  refine ⟨hd, Zc st, ?_, rfl, by rw [hst], Hh⟩
  intro w'
  constructor
  ·simp at h6 h7 h8
   simp [results, Tryz.results78, h6, h7, h8, Zc, go_sem]
  ·simp [results, Tryz.results78, go_sem]
 by_cases ES : s ≤ -(up.length : Int)
 ·have Rv : decide (s ≤ -(up.length : Int)) = true := by simpa using ES
  refine aR C (bP C ?_)
  refine aj C ?_
  try walk_nrm
  refine aj C ?_
  try walk_nrm
  refine hU C hp Hx ?_
  try walk_nrm
  refine aj C ?_
  try walk_nrm
  refine di C (v := ?v10) rfl (by rfl) (fun w => run_eq_of fun K hK => ?r10) (fun w => ?e10) ?uD
  case r10 => go_simp; exact hK
  case e10 => simp [go_sem, Op.unary]
  try walk_nrm
  refine aj C ?_
  try walk_nrm
  refine aj C ?_
  try walk_nrm
  refine cD C rfl (by rfl) ?_
  try walk_nrm
  refine cD C rfl (by rfl) ?_
  try walk_nrm
  refine cD C rfl (by rfl) ?_
  try walk_nrm
  refine cD C rfl (by rfl) ?_
  try walk_nrm
  refine cD C rfl (by rfl) ?_
  try walk_nrm
  refine aj C ?_
  try walk_nrm
  refine aM C ?_
  co_then
  refine cU C (t := true) rfl ?_
  simp only [if_true]
  refine aR C (bP C ?_)
  refine aj C ?_
  try walk_nrm
  refine aj C ?_
  try walk_nrm
  refine aj C ?_
  try walk_nrm
  refine aM C ?_
  co_then
  refine zW C ?_
  co_then
  exact Ff _ (0, 0, 0) rfl rfl rfl rfl (JS low up s (by omega) _ (ai _)).symm
 ·have Rv : decide (s ≤ -(up.length : Int)) = false := by simpa using ES
  by_cases hs2 : (low.length : Int) ≤ s
  ·have ZN : decide ((low.length : Int) ≤ s) = true := by simpa using hs2
   refine aR C (bP C ?_)
   refine aj C ?_
   try walk_nrm
   refine aj C ?_
   try walk_nrm
   refine hU C hp Hx ?_
   try walk_nrm
   refine aj C ?_
   try walk_nrm
   refine di C (v := ?v21) rfl (by rfl) (fun w => run_eq_of fun K hK => ?r21) (fun w => ?e21) ?h21
   case r21 => go_simp; exact hK
   case e21 => simp [go_sem, Op.unary]
   try walk_nrm
   refine aj C ?_
   try walk_nrm
   refine aj C ?_
   try walk_nrm
   refine aj C ?_
   try walk_nrm
   refine aj C ?_
   try walk_nrm
   refine hU C hp Jm ?_
   try walk_nrm
   refine aj C ?_
   try walk_nrm
   refine aj C ?_
   try walk_nrm
   refine aj C ?_
   try walk_nrm
   refine aM C ?_
   co_then
   refine cU C (t := true) rfl ?_
   simp only [if_true]
   refine aR C (bP C ?_)
   refine aj C ?_
   try walk_nrm
   refine aj C ?_
   try walk_nrm
   refine aj C ?_
   try walk_nrm
   refine aM C ?_
   co_then
   refine zW C ?_
   co_then
   exact Ff _ (0, 0, 0) rfl rfl rfl rfl (JS low up s (by omega) _ (ai _)).symm
  ·have ZN : decide ((low.length : Int) ≤ s) = false := by simpa using hs2
   refine aR C (bP C ?_)
   refine aj C ?_
   try walk_nrm
   refine aj C ?_
   try walk_nrm
   refine hU C hp Hx ?_
   try walk_nrm
   refine aj C ?_
   try walk_nrm
   refine di C (v := ?v37) rfl (by rfl) (fun w => run_eq_of fun K hK => ?r37) (fun w => ?e37) ?h37
   case r37 => go_simp; exact hK
   case e37 => simp [go_sem, Op.unary]
   try walk_nrm
   refine aj C ?_
   try walk_nrm
   refine aj C ?_
   try walk_nrm
   refine aj C ?_
   try walk_nrm
   refine aj C ?_
   try walk_nrm
   refine hU C hp Jm ?_
   try walk_nrm
   refine aj C ?_
   try walk_nrm
   refine aj C ?_
   try walk_nrm
   refine aj C ?_
   try walk_nrm
   refine aM C ?_
   co_then
   refine cU C (t := false) rfl ?_
   simp only [aD, if_false]
   refine jf C ?_
   co_then
   refine aR C (aR C (bP C ?_))
   refine aj C ?_
   try walk_nrm
   refine hU C hp Hx ?_
   try walk_nrm
   refine aj C ?_
   try walk_nrm
   refine aj C ?_
   try walk_nrm
   refine aM C ?_
   co_then
   refine fu C ?_
   refine mW C (fun n γ' a w' => γ' = (p, γ2) ∧ w' = W ∧ ∃ k, k ≤ up.length ∧ n = up.length - k ∧ ∃ u, a = aaK ua lb A B ca cb low up s bA bB (Bs low up s k) k u) (n := up.length) ⟨rfl, rfl, 0, by omega, by omega, nj rfl⟩ ?_
   rintro n γ' a w' ⟨hγ, hw', k, hk, hn, u, ha⟩
   subst hγ hw'
   have hN := JU low up s k
   have hS := vw low up s k
   have hSk : ∀ r, Jd low up s (Bs low up s k) k = r → Bs low up s (k + 1) = r := fun r h => hS.trans h
   clear hS
   have aak : k = up.length → uM low up s = Bs low up s k := fun h => by rw [h]; rfl
   generalize Bs low up s k = st at *
   unfold aaK at ha
   subst ha
   refine aR C (bP C ?_)
   by_cases hlt : k < up.length
   ·have Y3 : decide ((k : Int) < (up.length : Int)) = true := by simpa using hlt
    obtain ⟨x, hx⟩ : ∃ x, up[k]? = some x := ⟨_, bV hlt⟩
    obtain ⟨bd, ZV, hsB⟩ := hB k x hx
    subst ZV
    have hxb := QY.2 k x hx
    have hw3 : IntKind.i64.wrap ((k : Int) + s) = (k : Int) + s := by rw [tn] <;> omega
    have hw5 : IntKind.i64.wrap ((k : Int) + 1) = (k : Int) + 1 := by rw [tn] <;> omega
    have hgx : up.getD k 0 = x := by simp [List.getD, hx]
    refine aj C ?_
    try walk_nrm
    refine aM C ?_
    co_then
    refine aR C (cU C (t := true) rfl ?_)
    simp only [if_true]
    refine jf C ?_
    co_then
    refine aR C (fu C (aR C (bP C ?_)))
    refine aj C ?_
    try walk_nrm
    refine aj C ?_
    try walk_nrm
    refine hU C hp hsB ?_
    try walk_nrm
    refine aj C ?_
    try walk_nrm
    refine aj C ?_
    try walk_nrm
    refine aM C ?_
    co_then
    refine aR C (bP C ?_)
    refine aj C ?_
    try walk_nrm
    refine aj C ?_
    try walk_nrm
    refine aj C ?_
    try walk_nrm
    refine aj C ?_
    try walk_nrm
    refine aM C ?_
    co_then
    refine aR C (aR C (bP C ?_))
    by_cases EG : (k : Int) + s < 0
    ·have Ru : decide ((k : Int) + s < 0) = true := by simpa using EG
     refine aj C ?_
     try walk_nrm
     refine aj C ?_
     try walk_nrm
     refine aj C ?_
     try walk_nrm
     refine cD C rfl (by rfl) ?_
     try walk_nrm
     refine cD C rfl (by rfl) ?_
     try walk_nrm
     refine cD C rfl (by rfl) ?_
     try walk_nrm
     refine cD C rfl (by rfl) ?_
     try walk_nrm
     refine cD C rfl (by rfl) ?_
     try walk_nrm
     refine aj C ?_
     try walk_nrm
     refine aM C ?_
     co_then
     refine cU C (t := true) rfl ?_
     simp only [if_true]
     refine lT C ?_
     co_then
     have hst : Jd low up s st k = st := by unfold Jd; rw [if_pos (.inl EG)]
     refine bP C ?_
     refine aj C ?_
     try walk_nrm
     refine aj C ?_
     try walk_nrm
     refine aM C (dG ?_)
     refine ⟨up.length - (k + 1), by omega, rfl, rfl, k + 1, by omega, rfl, nj ?_⟩
     rw [hSk _ hst]
     rfl
    ·have Ru : decide ((k : Int) + s < 0) = false := by simpa using EG
     by_cases wu : (low.length : Int) ≤ (k : Int) + s
     ·have ZM : decide ((low.length : Int) ≤ (k : Int) + s) = true := by simpa using wu
      refine aj C ?_
      try walk_nrm
      refine aj C ?_
      try walk_nrm
      refine aj C ?_
      try walk_nrm
      refine aj C ?_
      try walk_nrm
      refine aj C ?_
      try walk_nrm
      refine hU C hp Jm ?_
      try walk_nrm
      refine aj C ?_
      try walk_nrm
      refine aj C ?_
      try walk_nrm
      refine aj C ?_
      try walk_nrm
      refine aM C ?_
      co_then
      refine cU C (t := true) rfl ?_
      simp only [if_true]
      refine lT C ?_
      co_then
      have hst : Jd low up s st k = st := by unfold Jd; rw [if_pos (.inr wu)]
      refine bP C ?_
      refine aj C ?_
      try walk_nrm
      refine aj C ?_
      try walk_nrm
      refine aM C (dG ?_)
      refine ⟨up.length - (k + 1), by omega, rfl, rfl, k + 1, by omega, rfl, nj ?_⟩
      rw [hSk _ hst]
      rfl
     ·have ZM : decide ((low.length : Int) ≤ (k : Int) + s) = false := by simpa using wu
      refine aj C ?_
      try walk_nrm
      refine aj C ?_
      try walk_nrm
      refine aj C ?_
      try walk_nrm
      refine aj C ?_
      try walk_nrm
      refine aj C ?_
      try walk_nrm
      refine hU C hp Jm ?_
      try walk_nrm
      refine aj C ?_
      try walk_nrm
      refine aj C ?_
      try walk_nrm
      refine aj C ?_
      try walk_nrm
      refine aM C ?_
      co_then
      refine cU C (t := false) rfl ?_
      simp only [aD, if_false]
      refine jf C ?_
      co_then
      obtain ⟨y, hy⟩ : ∃ y, low[((k : Int) + s).toNat]? = some y := ⟨_, bV (by omega)⟩
      obtain ⟨al, hAe, YS⟩ := hA _ y hy
      subst hAe
      have hyb := MR.2 _ y hy
      have hw4 : IntKind.i64.wrap (x + y) = x + y := by rw [tn] <;> omega
      have hw6 : IntKind.i64.wrap (st.2.2 + 1) = st.2.2 + 1 := by rw [tn] <;> omega
      have hgy : low.getD ((k : Int) + s).toNat 0 = y := by simp [List.getD, hy]
      have zB : 0 ≤ (k : Int) + s := by omega
      have hi1 : (k : Int) + s < (low.length : Int) := by omega
      refine aR C (bP C ?_)
      refine aj C ?_
      try walk_nrm
      refine aj C ?_
      try walk_nrm
      refine hU C hp Jm ?_
      try walk_nrm
      refine aj C ?_
      try walk_nrm
      refine aj C ?_
      try walk_nrm
      refine hU C hp YS ?_
      try walk_nrm
      refine aj C ?_
      try walk_nrm
      refine aj C ?_
      try walk_nrm
      refine aM C ?_
      co_then
      refine aR C (aR C (bP C ?_))
      have WM : st.2.2 = 0 → Jd low up s st k = (x + y, x + y, 1) := by
       intro h0
       unfold Jd
       rw [if_neg (by omega), if_pos h0, hgx, hgy]
      have WK : st.2.2 ≠ 0 → Jd low up s st k = (if x + y < st.1 then x + y else st.1, if st.2.1 < x + y then x + y else st.2.1, st.2.2 + 1) := by
       intro h0
       unfold Jd
       rw [if_neg (by omega), if_neg h0, hgx, hgy]
      clear aak
      obtain ⟨s1, s2, s3⟩ := st
      simp only at *
      by_cases Rw : s3 = 0
      ·subst Rw
       have hst := WM rfl
       clear WM WK
       refine aj C ?_
       try walk_nrm
       refine aj C ?_
       try walk_nrm
       refine aM C ?_
       co_then
       refine cU C (t := true) rfl ?_
       simp only [if_true]
       refine bP C ?_
       refine aj C ?_
       try walk_nrm
       refine aj C ?_
       try walk_nrm
       refine aj C ?_
       try walk_nrm
       refine aj C ?_
       try walk_nrm
       refine aM C ?_
       co_then
       refine bP C ?_
       refine aj C ?_
       try walk_nrm
       refine aj C ?_
       try walk_nrm
       refine di C (v := ?Z8) rfl (by rfl) (fun w => run_eq_of fun K hK => ?r102) (fun w => ?e102) ?adH
       case r102 => go_simp; exact hK
       case e102 => simp [go_sem, qj]
       try walk_nrm
       refine aj C ?_
       try walk_nrm
       refine aj C ?_
       try walk_nrm
       refine di C (v := ?v105) rfl (by rfl) (fun w => run_eq_of fun K hK => ?r105) (fun w => ?e105) ?adG
       case r105 => go_simp; exact hK
       case e105 => simp [go_sem, qm]
       try walk_nrm
       refine aj C ?_
       try walk_nrm
       refine aj C ?_
       try walk_nrm
       refine aj C ?_
       try walk_nrm
       refine aj C ?_
       try walk_nrm
       refine aj C ?_
       try walk_nrm
       refine aM C ?_
       co_then
       refine bP C ?_
       refine aj C ?_
       try walk_nrm
       refine aj C ?_
       try walk_nrm
       refine aM C (dG ?_)
       refine ⟨up.length - (k + 1), by omega, rfl, rfl, k + 1, by omega, rfl, nj ?_⟩
       rw [hSk _ hst]
       rfl
      ·have hd6 : decide (s3 = 0) = false := by simpa using Rw
       have adC : (s3 == 0) = false := by simpa using Rw
       have hst := WK Rw
       clear WM WK
       refine aj C ?_
       try walk_nrm
       refine aj C ?_
       try walk_nrm
       refine aM C ?_
       co_then
       refine cU C (t := false) rfl ?_
       simp only [aD, if_false]
       refine jf C ?_
       co_then
       refine bP C ?_
       refine aj C ?_
       try walk_nrm
       refine aj C ?_
       try walk_nrm
       refine di C (v := ?v117) rfl (by rfl) (fun w => run_eq_of fun K hK => ?r117) (fun w => ?e117) ?adF
       case r117 => go_simp; exact hK
       case e117 => simp [go_sem, qj]
       try walk_nrm
       refine aj C ?_
       try walk_nrm
       refine aj C ?_
       try walk_nrm
       refine di C (v := ?adv) rfl (by rfl) (fun w => run_eq_of fun K hK => ?r120) (fun w => ?e120) ?adE
       case r120 => go_simp; exact hK
       case e120 => simp [go_sem, qm]
       try walk_nrm
       refine aj C ?_
       try walk_nrm
       refine aj C ?_
       try walk_nrm
       refine aj C ?_
       try walk_nrm
       refine aj C ?_
       try walk_nrm
       refine aj C ?_
       try walk_nrm
       refine aM C ?_
       co_then
       refine bP C ?_
       refine aj C ?_
       try walk_nrm
       refine aj C ?_
       try walk_nrm
       refine aM C (dG ?_)
       refine ⟨up.length - (k + 1), by omega, rfl, rfl, k + 1, by omega, rfl, nj ?_⟩
       rw [hSk _ hst]
       rfl
   ·have Jh : k = up.length := by omega
    subst Jh
    have Y3 : decide ((up.length : Int) < (up.length : Int)) = false := by simp
    refine aj C ?_
    try walk_nrm
    refine aM C ?_
    co_then
    refine aR C (cU C (t := false) rfl ?_)
    simp only [aD, if_false]
    refine lT C ?_
    co_then
    refine aR C (bP C ?_)
    refine aj C ?_
    try walk_nrm
    refine aj C ?_
    try walk_nrm
    refine aj C ?_
    try walk_nrm
    refine aj C ?_
    try walk_nrm
    refine aj C ?_
    try walk_nrm
    refine aj C ?_
    try walk_nrm
    refine aM C ?_
    co_then
    refine zW C ?_
    exact Ff _ st rfl rfl rfl rfl (aak rfl).symm
end Go.Co
end
