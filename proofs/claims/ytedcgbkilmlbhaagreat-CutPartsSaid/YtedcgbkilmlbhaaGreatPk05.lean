import Derived.Test.YtedcgbkilmlbhaaGreatPk04
import Derived.Test.YtedcgbkilmlbhaaGreatPk01
import Derived.Test.YtedcgbkilmlbhaaGreatProg
import Derived.Test.YtedcgbkilmlbhaaGreatChecked
import Derived.KernelRfl
import Derived.Laws.BitsLemmas
import Derived.Laws.StructEq
section
namespace Go.Tv
open Go Go.Di
def Vk (ty:fI) (te:List TV) (tS:List TB):ResultVar→Option TV
 | .tmp t=>some (te.getD t .unk)
 | .cell a t=>match ty t,te.getD a .unk with
  | some d,.ptr id off=>match tS[id]? with
   | some (.cells l)=>xO d.k.isAgg d.size l off
   | _=>none
  | _,_=>none
def wv (ty:fI) (te:List TV) (tS:List TB):List ResultVar→Option (List TV)
 | []=>some []
 | x::r=>match Vk ty te tS x,wv ty te tS r with
  | some v,some l=>some (v::l)
  | _,_=>none
def jC:List TV→TV
 | [d]=>d
 | l => .tup l
variable {P:Program} {ty:fI} {tt:TypeId→Option TT} {ι ι' w:lK} {S S':ak} {te mm:List TV} {env:List DV} {tS iT:List TB} {aI:bM} {call:bz} {yf:eE} {o:Oper} {ay nT:Nat} {B:List Nat} {r:TR} {ops:Array Oper}
theorem rM (h:b9 ι te tS env S):∀ {rs:List ResultVar} {vs:List TV},wv ty te tS rs=some vs→∃ ds,qE ty env S rs=some ds∧cQ ι S vs ds
 | [],vs,hx=>by cases hx; exact⟨[],rfl,bS⟩
 | x::r,vs,hx=>by
  simp only[wv] at hx
  split at hx
  ·rename_i v l h1 h2
   cases hx
   obtain⟨ds,k1,k2⟩:=rM h h2
   cases x with
   | tmp t =>
    cases h1
    exact⟨_,by simp only[qE,k1,Option.map_some],aV (Al h.env t) k2⟩
   | cell a t =>
    simp only[Vk] at h1
    split at h1
    ·rename_i d id off e1 e2
     split at h1
     ·rename_i l' e3
      have hg:=Al h.env a
      rw[e2] at hg
      generalize hd:env.getD a aX=da at hg
      cases da<;>simp only[RT] at hg
      obtain⟨g1,rfl⟩:=hg
      obtain⟨gR,gT,m1,m2,m3⟩:=h.cells id l' e3
      rw[g1] at m1
      cases m1
      obtain⟨q,m4,m5⟩:=oA m3 h1
      exact⟨q::ds,by simp only[qE,hd,jr,e1,m2,m4,k1],aV m5 k2⟩
     ·cases h1
    ·cases h1
  ·cases hx
theorem CC {ts:List (Option TT)} {vs:List TV} {ds:List DV} (hp:vs.all dR=true) (h:cQ ι S vs ds):(oneOf ds).strip.pure=true∧RT ι' S' (jC (bG ts vs)) (oneOf ds).strip:=by
 have many:∀ {ts:List (Option TT)} {l:List TV} {m:List DV},l.all dR=true→cQ ι S l m→(m.map DV.cN).all DV.iK=true∧cQ ι' S' (bG ts l) (m.map DV.cN):=by
  intro ts l
  induction l generalizing ts with
  | nil=>intro m _ h; rw[aU h]; cases ts<;>exact⟨rfl,by simp only[bG,ek]; exact bS⟩
  | cons a l ih =>
   intro m hp h
   obtain⟨d,m',rfl,h1,h2⟩:=ax h
   simp only[List.all_cons,aB] at hp
   cases ts with
   | nil =>
    obtain⟨k1,k0,k2⟩:=kB (t:=none) (ι':=ι') (S':=S') hp.1 h1
    obtain⟨k3,k4⟩:=ih (ts:=[]) hp.2 h2
    have e:d.strip=d.cN:=by cases d<;>first | rfl | exact(k0 _ rfl).elim
    rw[e] at k1 k2
    have e2:d.cN.iK=true:=by cases d<;>first | exact k1 | exact(k0 _ rfl).elim
    exact⟨by rw[bD,List.all_cons,e2,k3]; rfl,by simp only[bG,bD]; exact aV k2 k4⟩
   | cons t ts =>
    obtain⟨k1,k0,k2⟩:=kB (t:=t) (ι':=ι') (S':=S') hp.1 h1
    obtain⟨k3,k4⟩:=ih (ts:=ts) hp.2 h2
    have e:d.strip=d.cN:=by cases d<;>first | rfl | exact(k0 _ rfl).elim
    rw[e] at k1 k2
    have e2:d.cN.iK=true:=by cases d<;>first | exact k1 | exact(k0 _ rfl).elim
    exact⟨by rw[bD,List.all_cons,e2,k3]; rfl,by simp only[bG,bD]; exact aV k2 k4⟩
 match vs,ds,hp,h with
 | [],ds,_,h=>rw[aU h]; cases ts<;>exact⟨rfl,by simp only[bG,jC,oneOf,DV.strip,RT,ek]; exact bS⟩
 | [v],ds,hp,h =>
  obtain⟨d,m',rfl,h1,h2⟩:=ax h
  rw[aU h2]
  simp only[List.all_cons,List.all_nil,Bool.and_true] at hp
  cases ts with
  | nil =>
   obtain⟨k1,k0,k2⟩:=kB (t:=none) (ι':=ι') (S':=S') hp h1
   exact⟨k1,k2⟩
  | cons t ts =>
   obtain⟨k1,k0,k2⟩:=kB (t:=t) (ι':=ι') (S':=S') hp h1
   cases ts<;>exact⟨k1,k2⟩
 | v::u::l,ds,hp,h =>
  obtain⟨k1,k2⟩:=many (ts:=ts) hp h
  obtain⟨d,m',rfl,h1,h2⟩:=ax h
  obtain⟨d',YJ,rfl,h3,h4⟩:=ax h2
  refine⟨k1,?_⟩
  have e:∀ {ts:List (Option TT)},jC (bG ts (v::u::l)) = .tup (bG ts (v::u::l)):=by
   intro ts
   cases ts with
   | nil=>simp only[bG,jC]
   | cons t ts=>cases ts<;>simp only[bG,jC]
  rw[e]
  simp only[oneOf,DV.strip,RT]
  exact k2
theorem Mh {ts:List (Option TT)} {vs:List TV} {ds:List DV} (hp:vs.all dR=true) (h:cQ ι S vs ds):RT ι' S' (jC (bG ts vs)) (oneOf ds):=by
 have k:=jA (ts:=ts) (ι':=ι') (S':=S') hp h
 match vs,ds,hp,h,k with
 | [],ds,_,h,k=>rw[aU h]; cases ts<;>(simp only[bG,jC,oneOf,RT]; exact bS)
 | [v],ds,hp,h,k =>
  obtain⟨d,m',rfl,h1,h2⟩:=ax h
  rw[aU h2] at k ⊢
  cases ts with
  | nil=>simp only[bG] at k ⊢; obtain⟨_,_,e,k1,-⟩:=ax k; cases e; exact k1
  | cons t ts=>cases ts<;>(simp only[bG] at k ⊢; obtain⟨_,_,e,k1,-⟩:=ax k; cases e; exact k1)
 | v::u::l,ds,hp,h,k =>
  obtain⟨d,m',rfl,h1,h2⟩:=ax h
  obtain⟨d',YJ,rfl,h3,h4⟩:=ax h2
  have e:∀ {ts:List (Option TT)},jC (bG ts (v::u::l)) = .tup (bG ts (v::u::l)):=by
   intro ts
   cases ts with
   | nil=>simp only[bG,jC]
   | cons t ts=>cases ts<;>simp only[bG,jC]
  rw[e]
  simp only[oneOf,RT]
  exact k
section
variable (P:Program) (ty:fI) (bC:bM) (L:Nat)
def yJ (n:Nat):bM:=jH bC (cR P ty bC L n).1
def qh (n:Nat):bz:=(cR P ty bC L n).1
def Zh (n:Nat):eE:=(cR P ty bC L n).2
end
theorem gb {t:TT}:∀ {l:List t.den} {ds:List DV},dO t l ds→ds.length=l.length*t.size
 | [],ds,h=>by simp only[dO] at h; subst h; simp
 | x::l,ds,h=>by
  simp only[dO] at h
  obtain⟨c,m,rfl,h1,h2⟩:=h
  rw[cO,lB h1,gb h2,List.length_cons,jg,Nat.one_mul,Nat.add_comm]
theorem ur {t:TT} (h0:(t.agg||t.size==1)=true):∀ {l:List t.den} {ds:List DV},dO t l ds→dW (CR t) t.agg l (rowsOf t.size t.agg ds l.length)
 | [],ds,h=>by simp only[dO] at h; subst h; simp[rowsOf,dW]
 | x::l,ds,h=>by
  simp only[dO] at h
  obtain⟨c,m,rfl,h1,h2⟩:=h
  rw[List.length_cons,yc (lB h1)]
  refine⟨?_,ur h0 h2⟩
  cases ha:t.agg with
  | true=>exact⟨h1,by simp[s6]⟩
  | false =>
   have h3:=row_one h1 ha
   rw[ha] at h3
   have hs:t.size=1:=by rw[ha] at h0; simpa using h0
   have e2:(c++m).getD 0 aX=c.getD 0 aX:=by
    have:=lB h1
    simp only[aO,ep (show 0<c.length by omega)]
   simp only[aD,if_false]
   rw[e2]
   exact h3
theorem B9 (h:b9 ι te tS env S) {g:Nat} {t t':TT} {e:Nat} {l:List t'.den} {z:Bool} {d:DV} (hg:tS[g]? = some (.rows t' e l z)) (hd:RT ι S (.so g t) d) (ht:t'=t):∃ id ds,d = .gV id l.length t'.agg∧ι g=some id∧S[id]? = some (.op e t'.size ds z)∧yW S id l.length=some (e,t'.size,ds,z)∧dO t' l ds∧0<t'.size∧(t'.agg||t'.size==1)=true:=by
 subst ht
 cases d<;>simp only[RT] at hd
 rename_i id n agg
 obtain⟨h1,rfl,e',s',l',z',h2,h3⟩:=hd
 obtain⟨q0,q1,ds,q2,q3⟩:=h.mp g _ hg id h1
 rw[h2] at q2
 cases q2
 have hl:=gb q3
 have hn:n=l.length:=Nat.eq_of_mul_eq_mul_right q0 (h3.trans hl)
 subst hn
 refine⟨id,l',rfl,h1,h2,?_,q3,q0,q1⟩
 unfold yW
 rw[h2]
 simp only[h3,if_true]
theorem Ko {id n:Nat} {t:TT} {e:Nat} {ds:List DV} (h:yW S id n=some (e,t.size,ds,true)) (h0:0<t.size) (h1:(t.agg||t.size==1)=true):iY S (.gV id n t.agg) = .sl (rowsOf t.size t.agg ds n) none ⟨false,some false⟩:=by
 simp only[iY,h,iF h0,h1,fP,if_true]
def BR (tS:List TB):TV→TV
 | .so g t=>match tS[g]? with
  | some (.rows t' _ l _)=>if h:t'=t then .sl t (h▸l) .no else .so g t
  | _ => .so g t
 | v=>v
def E6 (tS:List TB):TV→TV
 | .agg l => .agg (l.map (BR tS))
 | v=>BR tS v
def uJ (tS:List TB) (vs:List TV):List TV:=vs.map (E6 tS)
section
variable {id:Nat} {e:TypeId} {s:Nat} {l:List DV}
theorem Ky {z:Bool} (h:S[id]? = some (.op e s l z)) (d:DV):∃ z',(uH S d)[id]? = some (.op e s l z')∧(z=true→z'=true)∧∀ n ag,d = .gV id n ag→n*s=l.length→z'=true:=by
 have hn:∀ n,n*s=l.length→yW S id n=some (e,s,l,z):=fun n hn=>by unfold yW; rw[h]; simp only[hn,if_true]
 unfold uH
 split
 ·rename_i gR n' ag'
  split
  ·rename_i e1 s1 l1 ho
   have h1:S[gR]? = some (.op e1 s1 l1 false):=by
    unfold yW at ho
    split at ho
    ·split at ho
     ·cases ho; assumption
     ·cases ho
    ·cases ho
   by_cases he:gR=id
   ·subst he
    rw[h] at h1
    cases h1
    exact⟨true,by rw[aK,if_pos rfl,if_pos (aJ.1 h).1],fun _=>rfl,fun _ _ _ _=>rfl⟩
   ·exact⟨z,by rw[aK,if_neg he]; exact h,fun h=>h,fun n ag hd _=>by cases hd; exact(he rfl).elim⟩
  ·rename_i hno
   refine⟨z,h,fun h=>h,fun n ag hd hl => ?_⟩
   cases hd
   cases z with
   | true=>rfl
   | false=>exact(hno _ _ _ (hn _ hl)).elim
 ·rename_i hno
  exact⟨z,h,fun h=>h,fun n ag hd _=>(hno _ _ _ hd).elim⟩
theorem KA:∀ (m:List DV) {S:ak} {z:Bool},S[id]? = some (.op e s l z)→∃ z',(m.foldl uH S)[id]? = some (.op e s l z')∧(z=true→z'=true)∧∀ n ag,DV.gV id n ag∈m→n*s=l.length→z'=true
 | [],S,z,h=>⟨z,h,fun h=>h,fun _ _ hm=>by simp at hm⟩
 | d::m,S,z,h=>by
  obtain⟨z1,h1,h2,h3⟩:=Ky h d
  obtain⟨z2,k1,k2,k3⟩:=KA m h1
  refine⟨z2,k1,fun hz=>k2 (h2 hz),fun n ag hm hn => ?_⟩
  rcases bt.1 hm with hm | hm
  ·exact k2 (h3 n ag hm.symm hn)
  ·exact k3 n ag hm hn
def Sc (d:DV) (id n:Nat):Prop:=∃ ag,d = .gV id n ag∨∃ m,d = .agg m∧DV.gV id n ag∈m
theorem KD {z:Bool} (h:S[id]? = some (.op e s l z)) (d:DV):∃ z',(qv S d)[id]? = some (.op e s l z')∧(z=true→z'=true)∧∀ n,Sc d id n→n*s=l.length→z'=true:=by
 unfold qv
 split
 ·rename_i m
  obtain⟨z1,h1,h2,h3⟩:=KA m h
  refine⟨z1,h1,h2,fun n hs hn => ?_⟩
  obtain⟨ag,hs | ⟨m',hs,hm⟩⟩:=hs
  ·cases hs
  ·cases hs; exact h3 n ag hm hn
 ·rename_i hno
  obtain⟨z1,h1,h2,h3⟩:=Ky h d
  refine⟨z1,h1,h2,fun n hs hn => ?_⟩
  obtain⟨ag,hs | ⟨m',hs,hm⟩⟩:=hs
  ·exact h3 n ag hs hn
  ·exact(hno _ hs).elim
theorem Kw:∀ (m:List DV) {S:ak} {z:Bool},S[id]? = some (.op e s l z)→∃ z',(m.foldl qv S)[id]? = some (.op e s l z')∧(z=true→z'=true)∧∀ d∈m,∀ n,Sc d id n→n*s=l.length→z'=true
 | [],S,z,h=>⟨z,h,fun h=>h,fun _ hm=>by simp at hm⟩
 | d::m,S,z,h=>by
  obtain⟨z1,h1,h2,h3⟩:=KD h d
  obtain⟨z2,k1,k2,k3⟩:=Kw m h1
  refine⟨z2,k1,fun hz=>k2 (h2 hz),fun d' hm n hs hn => ?_⟩
  rcases bt.1 hm with rfl | hm
  ·exact k2 (h3 n hs hn)
  ·exact k3 d' hm n hs hn
end
theorem F9 (h:b9 ι te tS env S) {S':ak} {v:TV} {d:DV} (hv:RT ι S v d) (hp:dR (BR tS v)=true) (hh:∀ id n ag e s l z,d = .gV id n ag→S[id]? = some (.op e s l z)→n*s=l.length→S'[id]? = some (.op e s l true)):RT ι S (BR tS v) (iY S' d):=by
 cases v
 case so g t =>
  simp only[BR] at hp ⊢
  split at hp
  ·rename_i t' e l z hg
   split at hp
   ·rename_i ht
    obtain⟨id,cs,rfl,h1,h2,h3,h4,h5,h6⟩:=B9 h hg hv ht
    subst ht
    have hn:l.length*t'.size=cs.length:=(gb h4).symm
    have hS:yW S' id l.length=some (e,t'.size,cs,true):=by
     unfold yW
     rw[hh _ _ _ _ _ _ _ rfl h2 hn]
     simp only[hn,if_true]
    rw[Ko hS h5 h6,dif_pos rfl]
    simp only[RT,tH,and_true]
    exact ur h6 h4
   ·cases hp
  ·cases hp
 all_goals first | (cases hp; done) | skip
 all_goals (simp only[BR] at hp ⊢; cases d<;>simp only[RT] at hv<;>simp only[iY,RT]<;>exact hv)
theorem Tu {v:TV} (h:tK v=true):dR v=true:=by cases v<;>first | rfl | cases h
theorem CM (h:b9 ι te tS env S) {S':ak}:∀ {l:List TV} {m:List DV},cQ ι S l m→(l.map (BR tS)).all tK=true→(∀ d∈m,∀ id n ag e s l z,d = .gV id n ag→S[id]? = some (.op e s l z)→n*s=l.length→S'[id]? = some (.op e s l true))→cQ ι S (l.map (BR tS)) (m.map (iY S'))
 | [],m,hd,_,_=>by rw[aU hd]; exact bS
 | v::l,m,hd,hp,hh=>by
  obtain⟨d,m',rfl,h1,h2⟩:=ax hd
  simp only[bD,List.all_cons,aB] at hp ⊢
  exact aV (F9 h h1 (Tu hp.1) (hh d kO)) (CM h h2 hp.2 fun d hd=>hh d (List.mem_cons_of_mem _ hd))
theorem Yw {v:TV} {d:DV} (hv:RT ι S v d) (hp:dR (E6 tS v)=true):∀ l,d ≠ .tup l:=by
 intro l e
 subst e
 cases v<;>first | (simp only[RT] at hv; done) | (simp only[E6,BR] at hp; cases hp)
theorem Mo (h:b9 ι te tS env S) {S':ak} {v:TV} {d:DV} (hv:RT ι S v d) (hp:dR (E6 tS v)=true) (hh:∀ id n e s l z,Sc d id n→S[id]? = some (.op e s l z)→n*s=l.length→S'[id]? = some (.op e s l true)):RT ι S (E6 tS v) (qf S' d)∧∀ l,d ≠ .tup l:=by
 cases v
 case agg l =>
  cases d<;>simp only[RT] at hv
  rename_i m
  simp only[E6,dR] at hp
  refine⟨?_,fun _ e=>by cases e⟩
  simp only[E6,qf,RT]
  exact CM h hv hp fun d hd id n ag e s l z he=>hh id n e s l z ⟨ag,.inr ⟨m,rfl,he▸hd⟩⟩
 all_goals
  have hd:(∀ l,d ≠ .agg l)∧∀ l,d ≠ .tup l:=by
   constructor<;>intro l e<;>subst e<;>first | (simp only[RT] at hv; done) | (simp only[E6,BR] at hp; cases hp)
  refine⟨?_,hd.2⟩
  have e:qf S' d=iY S' d:=by
   cases d<;>first | rfl | exact(hd.1 _ rfl).elim
  rw[e]
  exact F9 h hv hp fun id n ag e s l z he=>hh id n e s l z ⟨ag,.inl he⟩
theorem Yv (h:b9 ι te tS env S) {vs:List TV} {ds:List DV} (hd:cQ ι S vs ds) (hp:(uJ tS vs).all dR=true):∃ gT,oneOf gT=qH (Dx S (oneOf ds)) (oneOf ds)∧cQ ι S (uJ tS vs) gT:=by
 have many:∀ {S':ak} {vs:List TV} {ds:List DV},cQ ι S vs ds→(uJ tS vs).all dR=true→(∀ d∈ds,∀ id n e s l z,Sc d id n→S[id]? = some (.op e s l z)→n*s=l.length→S'[id]? = some (.op e s l true))→cQ ι S (uJ tS vs) (ds.map (qf S'))∧∀ d∈ds,∀ l,d ≠ .tup l:=by
  intro S' vs
  induction vs with
  | nil=>intro ds hd _ _; rw[aU hd]; exact⟨bS,by simp⟩
  | cons v vs ih =>
   intro ds hd hp hh
   obtain⟨d,m',rfl,h1,h2⟩:=ax hd
   simp only[uJ,bD,List.all_cons,aB] at hp
   obtain⟨a1,a2⟩:=Mo h h1 hp.1 (hh d kO)
   obtain⟨b1,b2⟩:=ih h2 hp.2 fun d hd=>hh d (List.mem_cons_of_mem _ hd)
   refine⟨aV a1 b1,fun d' uC => ?_⟩
   rcases bt.1 uC with rfl | uC
   ·exact a2
   ·exact b2 d' uC
 match vs,ds,hd,hp with
 | [v],ds,hd,hp =>
  obtain⟨d,m',rfl,k1,k2⟩:=ax hd
  rw[aU k2] at hd ⊢
  have V9:=hp
  simp only[uJ,bD,ek,List.all_cons,List.all_nil,Bool.and_true] at V9
  have h0:=Yw k1 V9
  ·have e1:Dx S d=qv S d:=by cases d<;>first | rfl | exact(h0 _ rfl).elim
   have e2:qH (qv S d) d=qf (qv S d) d:=by cases d<;>first | rfl | exact(h0 _ rfl).elim
   refine⟨[d].map (qf (qv S d)),by simp only[oneOf,bD,ek,e1,e2],(many hd hp fun d' uC id n e s l z hs ho hn => ?_).1⟩
   simp only[bH] at uC
   subst uC
   obtain⟨z',q1,-,q3⟩:=KD ho d'
   rw[q3 n hs hn] at q1
   exact q1
 | [],ds,hd,_=>exact⟨[],by rw[aU hd]; rfl,bS⟩
 | v::u::vs,ds,hd,hp =>
  obtain⟨d,m',rfl,k1,k2⟩:=ax hd
  obtain⟨d',YJ,rfl,k3,k4⟩:=ax k2
  refine⟨(d::d'::YJ).map (qf ((d::d'::YJ).foldl qv S)),rfl,(many hd hp fun d1 Rv id n e s l z hs ho hn => ?_).1⟩
  obtain⟨z',q1,-,q3⟩:=Kw (d::d'::YJ) ho
  rw[q3 d1 Rv n hs hn] at q1
  exact q1
def Xq (ty:fI) (rs:List ResultVar) (gJ:List (Option TT)) (Q:TV→Prop) (e:DX) (te:List TV) (tS:List TB):Prop :=
 (match e with | .exit _=>False | _=>True)∧∃ vs,wv ty te tS rs=some vs∧(uJ tS vs).all dR=true∧refs (jC (bG gJ (uJ tS vs)))=[]∧Q (jC (bG gJ (uJ tS vs)))
theorem Qu {bC:bM} {L n:Nat} {f:FuncId} {fn:Func} {c:Code} {targs:List TV} {gJ:List (Option TT)} {Q:TV→Prop} (hf:P.funcs[f]? = some fn) (hb:fn.body=some c) (ht:∀ a,cQ eB [] targs a→bC f a=none)
  (h:WT P ty (yJ P ty bC L n) (qh P ty bC L n) (Zh P ty bC L n) [] L f false c (targs++List.replicate (fn.ntmps-targs.length) .unk) [] (Xq ty fn.results.toList gJ Q)):qN (yJ P ty bC L (n+1)) f targs Q:=by
 intro bY hd
 have hlen:=fM hd
 have hR:b9 eB (targs++List.replicate (fn.ntmps-targs.length) .unk) [] (bY++List.replicate (fn.ntmps-bY.length) aX) []:=by
  refine⟨ez hd (by rw[hlen]; exact rK _ _),fun k l hk=>(by simp at hk),fun k e s hk=>(by simp at hk),fun k k' hk=>(by cases hk),fun i j k' hi=>(by cases hi),fun k b hk=>(by simp at hk)⟩
 obtain⟨e,aC,S',ι',ck,cu,h1,h2,h3,h4,h5,h6⟩:=h eB _ [] hR (fun k hk=>(by cases hk))
 obtain⟨h6,vs,h7,h8,h9,uD⟩:=h6
 obtain⟨ds,k1,k2⟩:=rM h2 h7
 obtain⟨ds2,c1,c2⟩:=Yv h2 k2 h8
 obtain⟨k3,k4⟩:=CC (ts:=gJ) (ι':=eB) (S':=[]) h8 c2
 refine⟨(oneOf ds2).strip,_,?_,k3,k4,h9,uD⟩
 have hc:(cR P ty bC L (n+1)).1 f bY []=some (oneOf ds,S'):=by
  simp only[cR,hf,qJ,hb]
  have EW:ct P ty (jH bC (cR P ty bC L n).1) (cR P ty bC L n).1 (cR P ty bC L n).2 L f false c (bY++List.replicate (fn.ntmps-bY.length) aX) []=some (e,aC,S'):=h1
  rw[EW]
  cases e with
  | normal=>simp only[k1,Option.map_some]
  | ret=>simp only[k1,Option.map_some]
  | exit id=>exact h6.elim
 simp only[yJ,jH,ht _ hd,hc,← c1,k3,if_true]
def NW (ty:fI) (rs:List ResultVar) (gJ:List (Option TT)) (oa:List (Option TT)) (Q:TV→List TV→Prop) (e:DX) (te:List TV) (tS:List TB):Prop :=
 (match e with | .exit _=>False | _=>True)∧∃ vs ts,wv ty te tS rs=some vs∧vs.all dR=true∧refs (jC (bG gJ vs))=[]∧tS[0]? = some (.cells ts)∧ts.all dR=true∧gh (bG oa ts)=[]∧Q (jC (bG gJ vs)) (bG oa ts)
theorem QF {bC:bM} {L n:Nat} {f:FuncId} {fn:Func} {c:Code} {targs ts:List TV} {gJ oa:List (Option TT)} {Q:TV→List TV→Prop} (hf:P.funcs[f]? = some fn) (hb:fn.body=some c)
  (h:WT P ty (yJ P ty bC L n) (qh P ty bC L n) (Zh P ty bC L n) [0] L f false c (targs++List.replicate (fn.ntmps-targs.length) .unk) [.cells ts] (NW ty fn.results.toList gJ oa Q)):x5 (qh P ty bC L (n+1)) f targs ts Q:=by
 intro ι bY S hR
 have hlen:=fM hR.env
 have kE:b9 ι (targs++List.replicate (fn.ntmps-targs.length) .unk) [.cells ts] (bY++List.replicate (fn.ntmps-bY.length) aX) S :=
  ⟨ez hR.env (by rw[hlen]; exact rK _ _),hR.cells,hR.own,hR.xI,hR.inj,hR.mp⟩
 obtain⟨e,aC,S',ι',ck,cu,h1,h2,h3,h4,h5,h6⟩:=h ι _ S kE (fun k hk=>(by
  have:k=0:=by simpa using hk
  subst this
  exact⟨ts,rfl⟩))
 obtain⟨h6,vs,vZ,h7,h8,h9,uD,Dk,Q5,Y9⟩:=h6
 obtain⟨ds,k1,k2⟩:=rM h2 h7
 obtain⟨k',gT,m1,m2,m3⟩:=h2.cells 0 vZ uD
 refine⟨oneOf ds,S',ι',_,bG oa vZ,k',gT,?_,Mh (ts:=gJ) h8 k2,h9,Q5,by rw[← h4.base 0 (by simp)]; exact m1,m2,jA Dk m3,h4,h5,Y9⟩
 simp only[qh,cR,hf,qJ,hb]
 have EW:ct P ty (jH bC (cR P ty bC L n).1) (cR P ty bC L n).1 (cR P ty bC L n).2 L f false c (bY++List.replicate (fn.ntmps-bY.length) aX) S=some (e,aC,S'):=h1
 rw[EW]
 cases e with
 | normal=>simp only[k1,Option.map_some]
 | ret=>simp only[k1,Option.map_some]
 | exit id=>exact h6.elim
end Go.Tv
end
section
namespace Go.Tv
open Go Go.Di
section
variable (P:Program) (ty:fI) (tt:TypeId→Option TT)
def N2:List TV→Option Nat
 | []=>none
 | v::l=>match refs v with
  | k::_=>if isRef v then some k else N2 l
  | []=>N2 l
end
variable {P:Program} {ty:fI} {tt:TypeId→Option TT} {ι ι' w:lK} {S S':ak} {te mm:List TV} {env:List DV} {tS iT:List TB} {aI:bM} {call:bz} {yf:eE} {o:Oper} {ay nT:Nat} {B:List Nat} {r:TR} {ops:Array Oper} {L:Nat} {fn:FuncId} {gW:Bool} {a b c:Code} {Q Q':DX→List TV→List TB→Prop}
variable {fs:List cT}
def WI (P:Program) (ty:fI) (aI:bM) (call:bz) (yf:eE) (B:List Nat) (L:Nat) (fn:FuncId) (gW:Bool) (n:Nat) (c:Code) (te:List TV) (tS:List TB) (Q:DX→List TV→List TB→Prop):Prop :=
 ∀ ι env S,b9 ι te tS env S→nL B tS→∃ e aC S' ι' ck cu,lG (ct P ty aI call yf L fn gW c) n env S=some (e,aC,S')∧b9 ι' ck cu aC S'∧nL B cu∧Fr B ι S ι' S'∧Nn S.length S S'∧Q e ck cu
theorem xo {f:List DV→ak→Option (DX×List DV×ak)}:∀ {n m:Nat} {env:List DV} {S:ak} {r:DX×List DV×ak},n≤m→lG f n env S=some r→lG f m env S=some r
 | 0,_,_,_,_,_,h=>by cases h
 | n+1,0,_,_,_,hn,_=>by omega
 | n+1,m+1,env,S,r,hn,h=>by
  simp only[lG] at h ⊢
  split at h
  ·rename_i aC S' e
   exact xo (by omega) h
  ·exact h
theorem Lm {n:Nat} (hn:n≤L) (h:WI P ty aI call yf B L fn gW n c te tS Q):WT P ty aI call yf B L fn gW (.loop c) te tS Q:=by
 intro ι env S hR hB
 obtain⟨e,aC,S',ι',ck,cu,h1,h2⟩:=h ι env S hR hB
 exact⟨e,aC,S',ι',ck,cu,by simp only[ct]; exact xo hn h1,h2⟩
theorem SH {n:Nat} (h:WT P ty aI call yf B L fn gW c te tS fun e te tS=>match e with | .normal=>WI P ty aI call yf B L fn gW n c te tS Q | e=>Q e te tS):WI P ty aI call yf B L fn gW (n+1) c te tS Q:=by
 intro ι env S hR hB
 obtain⟨e,aC,S',ι',ck,cu,h1,h2,h3,h4,h5,h6⟩:=h ι env S hR hB
 cases e with
 | normal =>
  obtain⟨e,ou,tj,ι'',tA,tB,k1,k2,k3,k4,k5,k6⟩:=h6 ι' aC S' h2 h3
  exact⟨e,ou,tj,ι'',tA,tB,by simp only[lG,h1,k1],k2,k3,h4.trans k4,qW h5 k5,k6⟩
 | exit id=>exact⟨_,aC,S',ι',ck,cu,by simp only[lG,h1],h2,h3,h4,h5,h6⟩
 | ret=>exact⟨_,aC,S',ι',ck,cu,by simp only[lG,h1],h2,h3,h4,h5,h6⟩
theorem SK {n:Nat} (hl:uE mm te) (hb:Bx iT tS) (jY:okB mm iT=true) (hB:∀ k,k∈B→mK iT k=true) (h:WI P ty aI call yf B L fn gW n c mm iT Q):WI P ty aI call yf B L fn gW n c te tS Q:=by
 intro ι env S hR UU
 have Q3:=AR hb UU hB
 obtain⟨ι1,h1,h2,-⟩:=As hR hl hb jY Q3
 obtain⟨e,aC,S',ι',ck,cu,m1,m2,m3,m4,m5⟩:=h ι1 env S h1 Q3
 exact⟨e,aC,S',ι',ck,cu,m1,m2,m3,h2.trans m4,m5⟩
theorem SJ {σ:Type} {N:Nat} (f:σ→List TV×List TB) (eF:σ→Prop) (m:σ→Nat) (s0:σ) (h0:Fits B (f s0).1 (f s0).2 te tS) (hg:eF s0) (hm:m s0<N)
  (hstep:∀ s,eF s→WT P ty aI call yf B L fn gW c (f s).1 (f s).2 fun e te tS=>match e with | .normal=>∃ s',Fits B (f s').1 (f s').2 te tS∧eF s'∧m s'<m s | e=>Q e te tS):WI P ty aI call yf B L fn gW N c te tS Q:=by
 refine SK h0.l h0.b h0.ok h0.base ?_
 have key:∀ n s,eF s→m s<n→∀ ι env S,b9 ι (f s).1 (f s).2 env S→nL B (f s).2→∃ e aC S' ι' ck cu,lG (ct P ty aI call yf L fn gW c) n env S=some (e,aC,S')∧b9 ι' ck cu aC S'∧nL B cu∧Fr B ι S ι' S'∧Nn S.length S S'∧Q e ck cu:=by
  intro n
  induction n with
  | zero=>intro s _ h; omega
  | succ n ih =>
   intro s hs hn ι env S hR hB
   obtain⟨e,aC,S',ι',ck,cu,h1,h2,h3,h4,h5,h6⟩:=hstep s hs ι env S hR hB
   cases e with
   | normal =>
    obtain⟨s',hf,lp,hlt⟩:=h6
    have Q3:=AR hf.b h3 hf.base
    obtain⟨ι1,k1,k2,-⟩:=As h2 hf.l hf.b hf.ok Q3
    obtain⟨e,ou,tj,ι'',tA,tB,m1,m2,m3,m4,m5,m6⟩:=ih s' lp (by omega) ι1 aC S' k1 Q3
    exact⟨e,ou,tj,ι'',tA,tB,by simp only[lG,h1,m1],m2,m3,(h4.trans k2).trans m4,qW h5 m5,m6⟩
   | exit id=>exact⟨_,aC,S',ι',ck,cu,by simp only[lG,h1],h2,h3,h4,h5,h6⟩
   | ret=>exact⟨_,aC,S',ι',ck,cu,by simp only[lG,h1],h2,h3,h4,h5,h6⟩
 intro ι env S hR hB
 exact key N s0 hg hm ι env S hR hB
theorem SA {σ:Type} (f:σ→List TV×List TB) (eF:σ→Prop) (h1:WT P ty aI call yf B L fn gW a te tS fun e te tS=>match e with | .normal=>∃ s,Fits B (f s).1 (f s).2 te tS∧eF s | e=>Q e te tS)
  (h2:∀ s,eF s→WT P ty aI call yf B L fn gW b (f s).1 (f s).2 Q):WT P ty aI call yf B L fn gW (.seq a b) te tS Q:=by
 refine OE (h1.mono ?_)
 intro e te tS hq
 cases e with
 | normal =>
  obtain⟨s,hf,hg⟩:=hq
  exact Sz hf.l hf.b hf.ok hf.base (h2 s hg)
 | exit id=>exact hq
 | ret=>exact hq
theorem Gc:∀ owns:List (Nat×Nat),Bx (owns.map fun p=>TB.own p.1 p.2) []
 | [] => .nil
 | _::l => .new (Gc l)
end Go.Tv
end
section
namespace Go.Di
open Go Go.Proofs
def abq (d:Tmp) (t:TypeId):Nat:=if t==23 then (if d==19 then 1 else if d==38 then 2 else 0) else if t==22 then (if d==18 then 1 else if d==12 then 1 else if d==26 then 2 else 0) else if t==25 then (if d==43 then 5 else if d==45 then 1 else 0) else 0
noncomputable abbrev TyH:fI:=⟨NB Tryz.prog,abq⟩
end Go.Di
end
section
namespace Go.Tv
open Go Go.Di Go.Proofs
abbrev bZ:TT := .int .i64
abbrev cE:TT := .sl bZ
abbrev fD:TT := .pair cE (.pair cE (.pair bZ (.pair cE .unit)))
abbrev O9:TT := .pair bZ (.pair bZ .unit)
abbrev Fy:TT := .pair bZ (.pair bZ (.pair bZ .unit))
abbrev Ss:TT := .pair .bool (.pair Fy .unit)
abbrev abY:TT := .pair cE (.pair cE (.pair bZ (.pair cE (.pair cE (.pair cE (.pair cE (.pair cE (.pair cE (.pair cE (.pair cE (.pair cE .unit)))))))))))
def ttL:List (Nat×TT):=[(3,bZ),(4,.bool),(35,bZ),(23,cE),(25,fD),(22,.sl fD),(75,O9),(83,.int .u64),(79,Fy),(34,.sl Fy),(81,Fy),(47,.sl Fy),(41,.sl cE),(9,.str),(145,Ss),(142,Ss),(143,.sl .bool),(30,.sl (.sl fD)),(99,.sl abY),(150,Ss),(148,.sl Ss)]
def Ux (t:TypeId):Option TT:=(ttL.find? fun p=>p.1==t).map (·.2)
abbrev vv:=TV.val
abbrev vi:=Value.int IntKind.i64
abbrev vb:=Value.bool
abbrev dn (n:Int):TV := .val (.int .i64 n)
abbrev o6 (b:Bool):TV := .val (.bool b)
noncomputable abbrev Tp:Program:=Tryz.prog
noncomputable abbrev Ty:fI:=TyH
def LL:Nat:=1001000
structure yQ (bC:bM):Prop where
 other:∀ f a,f≠60→f≠133→f≠12→f≠43→f≠52→bC f a=none
 fit:bC 12 []=some (.val (.bool true))
section
variable (bC:bM) (n:Nat)
noncomputable abbrev E1:bM:=yJ Tp Ty bC LL n
noncomputable abbrev wN:bz:=qh Tp Ty bC LL n
noncomputable abbrev yfT:eE:=Zh Tp Ty bC LL n
end
theorem zP {n:Int} (h : -9223372036854775808≤n) (h':n≤9223372036854775807):IntKind.i64.wrap n=n:=by rw[IntKind.wrap_i64]; omega
end Go.Tv
end
section
namespace Go.Tv
open Go Go.Di
def zO (aI:bM) (call:bz) (g:FuncId) (targs:List TV) (Q:List TV→Prop):Prop :=
 ∀ bY S,cQ eB S targs bY→(∀ ds,cQ eB [] targs ds→aI g ds=none)∧∃ S' id ds ts,call g bY S=some (.ptr id 0,S')∧¬ Lv S id∧S'[id]? = some (.cells ds)∧cQ eB [] ts ds∧gh ts=[]∧(∀ k',Lv S k'→S'[k']? = S[k']?)∧Nn S.length S S'∧Q ts
theorem zO.mono {aI:bM} {call:bz} {g:FuncId} {targs:List TV} {Q Q':List TV→Prop} (h:zO aI call g targs Q) (hq:∀ v,Q v→Q' v):zO aI call g targs Q':=fun bY S hd=>by
 obtain⟨h0,S',id,ds,ts,h1,h2,h3,h4,h5,h6,h7,h8⟩:=h bY S hd
 exact⟨h0,S',id,ds,ts,h1,h2,h3,h4,h5,h6,h7,hq _ h8⟩
variable {P:Program} {ty:fI} {tt:TypeId→Option TT} {ι ι' w:lK} {S S':ak} {te mm:List TV} {env:List DV} {tS iT:List TB} {aI:bM} {call:bz} {yf:eE} {o:Oper} {ay nT:Nat} {B:List Nat} {r:TR} {ops:Array Oper}
theorem I8 {f:Operand} {args:Array Operand} {argTypes:Array TypeId} {g:FuncId} {fs cs xs targs:List TV} {Q:List TV→Prop} (hop:o.op = .call { callee := .value f,args,argTypes }) (hh:ty.h o≠1) (hf:gd te f=some (.fn g fs cs)) (ha:mG te args.toList=some xs) (hp:(fs++xs++cs).all dR=true)
  (hn:bG (gq tt fs argTypes) (fs++xs++cs)=targs) (hs:zO aI call g targs Q):Does P ty aI call yf B o nT te tS false fun v ck cu _=>∃ ts,Q ts∧v = .ptr nT 0∧ck=te∧cu=nM tS nT (.cells ts):=by
 intro ι w env S ay hR hB hw hT Ht hS
 obtain⟨y6,iB,Jc,k1,k2,k3⟩:=jq hR.env hf ha
 obtain⟨k4,k5⟩:=iA (ts:=gq tt fs argTypes) (ι':=eB) (S':=[]) hp k3
 have k6:=jA (ts:=gq tt fs argTypes) (ι':=eB) (S':=S) hp k3
 rw[hn] at k5 k6
 obtain⟨h0,S',id,ds,ts,m1,m2,m3,m4,m5,m6,m7,m8⟩:=hs _ S k6
 have hne:∀ {k k':Nat},ι k=some k'→k'≠id:=fun hk e=>m2 (e▸hR.live hk)
 have uG:ι nT=none:=hR.new hT
 have K:kV ι S (upd ι nT id) S' fun _=>False:=fun k k' _ hk=>by
  have h1:k≠nT:=by rintro rfl; rw[uG] at hk; cases hk
  exact⟨by simp only[upd,h1,if_false]; exact hk,eW (m6 k' (hR.live hk))⟩
 refine⟨.ptr id 0,S',upd ι nT id,fun j=>if j=id then some nT else w j,.ptr nT 0,te,nM tS nT (.cells ts),⟨none,true⟩,⟨none,true⟩,fun _ => ?_,fun e=>(by cases e),⟨fun e=>e,fun l hl=>(by cases hl)⟩,fun l m hl=>(by cases hl),?_,by simp[RT,upd],?_,?_,?_,jb hB hT,⟨m7.1,fun j hj eG=>m7.2 j (by have:=(aJ.1 eG).1; omega) eG⟩,ts,m8,rfl,rfl,rfl⟩
 ·simp only[af,hop,k1,k2,uU,k4,if_true,h0 _ k5,m1]
 ·refine⟨bO K _ _ hR.env,fun k l hk => ?_,fun k e s hk t ht => ?_,fun k k' hk => ?_,fun i j k' hi hj => ?_,fun k b hk t ht => ?_⟩
  ·rw[cg hT] at hk
   split at hk
   ·rename_i e
    subst e
    cases hk
    exact⟨id,ds,by simp[upd],m3,gC _ _ m5 m4⟩
   ·rename_i e
    obtain⟨k',gT,h1,h2,h3⟩:=hR.cells k l hk
    exact⟨k',gT,by simp only[upd,e,if_false]; exact h1,by rw[m6 k' (hR.live h1)]; exact h2,bO K _ _ h3⟩
  ·rw[cg hT] at hk
   split at hk
   ·cases hk
   ·rename_i e'
    simp only[upd,e',if_false] at ht
    obtain⟨n,h1⟩:=hR.own k e s hk t ht
    exact⟨n,by rw[m6 t (hR.live ht)]; exact h1⟩
  ·rw[cg hT]
   split
   ·exact⟨_,rfl,fun e=>by cases e⟩
   ·rename_i e
    simp only[upd,e,if_false] at hk
    exact hR.xI k k' hk
  ·unfold upd at hi hj
   split at hi<;>split at hj
   ·omega
   ·cases hi; exact(hne hj rfl).elim
   ·cases hj; exact(hne hi rfl).elim
   ·exact hR.inj i j k' hi hj
  ·rw[cg hT] at hk
   split at hk
   ·cases hk; trivial
   ·rename_i e'
    simp only[upd,e',if_false] at ht
    rw[m6 t (hR.live ht)]; exact hR.mp k b hk t ht
 ·intro a b oW
  unfold upd at oW
  split at oW
  ·rename_i e; subst e; cases oW; simp
  ·simp only[hne oW,if_false]; exact hw _ _ oW
 ·intro e; cases e
 ·refine⟨fun k' hl _=>m6 k' hl,fun k k' hk => ?_,fun k hk => ?_⟩
  ·unfold upd at hk
   split at hk
   ·cases hk; exact .inr m2
   ·exact .inl ⟨k,hk⟩
  ·have:=kJ hB hT
   unfold upd
   rw[if_neg (fun e:k=nT=>this (e▸hk))]
def Xp (ty:fI) (rs:List ResultVar) (oa:List (Option TT)) (Q:List TV→Prop) (e:DX) (te:List TV) (tS:List TB):Prop :=
 (match e with | .exit _=>False | _=>True)∧∃ ts,wv ty te tS rs=some [.ptr 0 0]∧tS[0]? = some (.cells ts)∧ts.all dR=true∧gh (bG oa ts)=[]∧Q (bG oa ts)
theorem Qi {bC:bM} {L n:Nat} {f:FuncId} {fn:Func} {c:Code} {targs:List TV} {oa:List (Option TT)} {Q:List TV→Prop} (hf:P.funcs[f]? = some fn) (hb:fn.body=some c) (ht:∀ a,bC f a=none)
  (h:WT P ty (yJ P ty bC L n) (qh P ty bC L n) (Zh P ty bC L n) [] L f false c (targs++List.replicate (fn.ntmps-targs.length) .unk) [] (Xp ty fn.results.toList oa Q)):zO (yJ P ty bC L (n+1)) (qh P ty bC L (n+1)) f targs Q:=by
 have key:∀ bY S,cQ eB S targs bY→∃ S' id ds ts,(cR P ty bC L (n+1)).1 f bY S=some (.ptr id 0,S')∧¬ Lv S id∧S'[id]? = some (.cells ds)∧cQ eB [] ts ds∧gh ts=[]∧(∀ k',Lv S k'→S'[k']? = S[k']?)∧Nn S.length S S'∧Q ts:=by
  intro bY S hd
  have hlen:=fM hd
  have hR:b9 eB (targs++List.replicate (fn.ntmps-targs.length) .unk) [] (bY++List.replicate (fn.ntmps-bY.length) aX) S:=by
   refine⟨ez hd (by rw[hlen]; exact rK _ _),fun k l hk=>(by simp at hk),fun k e s hk=>(by simp at hk),fun k k' hk=>(by cases hk),fun i j k' hi=>(by cases hi),fun k b hk=>(by simp at hk)⟩
  obtain⟨e,aC,S',ι',ck,cu,h1,h2,h3,h4,h5,h6⟩:=h eB _ S hR (fun k hk=>(by cases hk))
  obtain⟨h6,ts,h7,h8,h9,uD,Dk⟩:=h6
  obtain⟨ds,k1,k2⟩:=rM h2 h7
  obtain⟨d,m',rfl,k3,k4⟩:=ax k2
  rw[aU k4] at k1
  cases d<;>simp only[RT] at k3
  rename_i id off
  obtain⟨k3,rfl⟩:=k3
  obtain⟨gR,gT,m1,m2,m3⟩:=h2.cells 0 ts h8
  rw[k3] at m1
  cases m1
  refine⟨S',id,gT,bG oa ts,?_,?_,m2,jA h9 m3,uD,fun k' hl=>h4.rest k' hl (fun k hk=>by cases hk),h5,Dk⟩
  ·simp only[cR,hf,qJ,hb]
   have EW:ct P ty (jH bC (cR P ty bC L n).1) (cR P ty bC L n).1 (cR P ty bC L n).2 L f false c (bY++List.replicate (fn.ntmps-bY.length) aX) S=some (e,aC,S'):=h1
   rw[EW]
   cases e with
   | normal=>simp only[k1,Option.map_some,oneOf]
   | ret=>simp only[k1,Option.map_some,oneOf]
   | exit id=>exact h6.elim
  ·rcases h4.ours 0 id k3 with ⟨j,hj⟩ | hl
   ·cases hj
   ·exact hl
 intro bY S hd
 refine⟨fun ds hds => ?_,key bY S hd⟩
 obtain⟨S',id,gT,ts,k1,-⟩:=key ds [] hds
 simp only[yJ,jH,ht,qH,Dx,qf,qv,iY,uH,k1,DV.strip,DV.cN,DV.pure,DV.iK,aD,if_false]
end Go.Tv
end
section
namespace Go.Tv
open Go Go.Di Go.Proofs
variable {P:Program}
theorem dH {α β:Type} (s:Sem α) (f:α→Sem β):b7 P (s >>= f)=(b7 P s).bind fun a=>b7 P (f a):=by
 change b7 P (s.bind f)=_
 cases s with
 | pure a=>rfl
 | program k =>
  simp only[Sem.bind,b7]
  generalize k P=s'
  induction s' with
  | pure a=>rfl
  | program k ih=>simp only[Sem.bind,b7]; exact ih P
  | _=>simp only[Sem.bind,b7,Option.bind_none]
 | _=>simp only[Sem.bind,b7,Option.bind_none]
theorem tY {α:Type} (a:α):b7 P (pure a:Sem α)=some a:=rfl
theorem kQ:b7 P program=some P:=rfl
theorem kD {t:TypeId} {d:TypeDesc} (h:P.underlying t=some d):b7 P (underlying t)=some d:=by
 unfold underlying
 rw[dH,kQ]
 simp only[Option.bind_some,h]
 rfl
theorem LY (d:Nat) (t:TypeId) (k k':IntKind) (a b:Int) (h:P.underlying t=some (.int k')):b7 P (Op.equalIn (d+1) t (.int k a) (.int k b))=some (a==b):=by
 simp only[Op.equalIn,dH,kD h,Option.bind_some,if_true]
 rfl
theorem LX {α:Type} {c:Prop} [Decidable c] {a b:Sem α}:b7 P (if c then a else b)=if c then b7 P a else b7 P b:=by split<;>rfl
theorem pW (d:Nat) (t:TypeId) (xs ys:Array Value) (ht:P.underlying t=some (.struct (P.fieldsOf t))) (hp:P.stoodInHeld t=false) :
  b7 P (Op.equalIn (d+1) t (.agg xs) (.agg ys))=b7 P (Op.eqFields d xs ys (P.fieldsOf t).toList):=by
 simp only[Op.equalIn,dH,kD ht,Option.bind_some,kQ,hp,aD,if_false]
 rw[← Array.forIn_toList]
 generalize (P.fieldsOf t).toList=fs
 clear ht
 induction fs with
 | nil=>rfl
 | cons f fs ih =>
  simp only[List.forIn_cons,Op.eqFields,dH,LX]
  split
  ·generalize b7 P (part f.type xs f.offset)=r1
   cases r1 with
   | none=>rfl
   | some a =>
    generalize b7 P (part f.type ys f.offset)=r2
    cases r2 with
    | none=>rfl
    | some b =>
     simp only[Option.bind_some]
     generalize b7 P (Op.equalIn d f.type a b)=r3
     cases r3 with
     | none=>rfl
     | some r =>
      cases r
      ·simp only[Option.bind_some,Bool.not_false,if_true,tY]
      ·simp only[Option.bind_some,eO,aD,if_false,tY]
       exact ih
  ·simp only[tY,Option.bind_some]
   exact ih
theorem Ug {d:Nat} {xs ys:Array Value}:b7 P (Op.eqFields d xs ys [])=some true:=rfl
theorem Um {t:TypeId} {xs ys:Array Value} {b:Bool} (ht:P.underlying t=some (.struct (P.fieldsOf t))) (hp:P.stoodInHeld t=false) (hm:P.eqGuardType P.depth t=false) (hf:b7 P (Op.eqFields 9999 xs ys (P.fieldsOf t).toList)=some b) (x y:Operand) :
  gZ P (do eqGuard .neq t x y (.agg xs) (.agg ys); binOp .neq t (.agg xs) (.agg ys))=some (.val (.bool !b)):=by
 have h1:b7 P (eqGuard .neq t x y (.agg xs) (.agg ys))=some ():=by
  simp only[eqGuard]
  simp only[eO,aD,if_false,dH,kQ,Option.bind_some,hm,Bool.not_false,if_true]
  rfl
 have h2:b7 P (binOp .neq t (.agg xs) (.agg ys))=some (.bool !b):=by
  simp only[binOp,dH,Op.equal,Op.maxDepth,pW 9999 t xs ys ht hp,hf,Option.bind_some]
  rfl
 rw[gZ,dH,h1,Option.bind_some,h2]
 rfl
variable {ty:fI} {tt:TypeId→Option TT} {ι ι' w:lK} {S S':ak} {te mm:List TV} {env:List DV} {tS iT:List TB} {aI:bM} {call:bz} {yf:eE} {o:Oper} {ay nT:Nat} {B:List Nat} {ops:Array Oper}
end Go.Tv
end
section
namespace Go.Tv
open Go Go.Di Go.Proofs
def Sg:(t:TT)→DecidableEq t.den
 | .int _=>inferInstanceAs (DecidableEq Int)
 | .bool=>inferInstanceAs (DecidableEq Bool)
 | .str=>inferInstanceAs (DecidableEq ByteArray)
 | .unit=>inferInstanceAs (DecidableEq Unit)
 | .pair a b=>fun x y=>@instDecidableEqProd _ _ (Sg a) (Sg b) x y
 | .sl t=>fun x y=>@instDecidableEqList _ (Sg t) x y
def NH (t:TT) (x:t.den) (l:List t.den):Bool:=l.any fun y=>@decide (x=y) (Sg t x y)
def WE (t:TT) (x:t.den) (l:List t.den):List t.den:=bif NH t x l then l else l++[x]
structure VV (P:Program) (t:TypeId) (kt:TT):Prop where
 look:∀ (x:kt.den) (l:List kt.den),b7 P (Jq t ((yO kt l).map Di.QU) (E0 kt x) false)=some (.bool (NH kt x l))
 find:∀ (x:kt.den) (l:List kt.den),∃ r,b7 P (JB t ((yO kt l).map Di.QU) (E0 kt x))=some r∧ND (yO kt l) (E0 kt x) (.bool true) r=some (yO kt (WE kt x l))
def RS (kt:TT) (v:TV):Option kt.den :=
 match v with
 | .agg l=>match gF l,kt.of l with
  | some vs,some (x,[])=>if vs.length=(B7 kt x).length then some x else none
  | _,_=>none
 | _=>none
def WB (P:Program) (tt:TypeId→Option TT) (te:List TV) (tS:List TB) (o:Oper) (nT:Nat):Option (TV×List TB×Prop) :=
 match o.op with
 | .makeMap t none=>match tt t with
  | some kt=>some (.mp nT,nM tS nT (.map kt []),True)
  | none=>none
 | .lookup t m k false=>match gd te m,gd te k with
  | some (.mp id),some v=>match tS[id]? with
   | some (.map kt l)=>match RS kt v with
    | some x=>some (.val (.bool (NH kt x l)),tS,VV P t kt)
    | none=>none
   | _=>none
  | _,_=>none
 | .mapUpdate t m k y=>match gd te m,gd te k,gd te y with
  | some (.mp id),some v,some (.val (.bool true))=>match tS[id]? with
   | some (.map kt l)=>match RS kt v with
    | some x=>some (.unk,tS.set id (.map kt (WE kt x l)),VV P t kt)
    | none=>none
   | _=>none
  | _,_,_=>none
 | _=>none
theorem Ed:∀ {t:TT} {l:List TV} {x:t.den} {r:List TV} {vs:List Value},t.of l=some (x,r)→gF l=some vs→∃ MG,gF r=some MG∧vs=B7 t x++MG
 | .int k,l,x,r,vs,h,hv=>by
  simp only[TT.of] at h
  unfold ofInt at h
  split at h
  ·split at h
   ·rename_i hk
    subst hk
    cases h
    simp only[gF,ah] at hv
    obtain⟨MG,h1,rfl⟩:=hv
    exact⟨MG,h1,rfl⟩
   ·cases h
  ·cases h
 | .bool,l,x,r,vs,h,hv=>by
  simp only[TT.of] at h
  unfold ofBool at h
  split at h
  ·cases h
   simp only[gF,ah] at hv
   obtain⟨MG,h1,rfl⟩:=hv
   exact⟨MG,h1,rfl⟩
  ·cases h
 | .str,l,x,r,vs,h,hv=>by
  simp only[TT.of] at h
  unfold ofStr at h
  split at h
  ·cases h
   simp only[gF,ah] at hv
   obtain⟨MG,h1,rfl⟩:=hv
   exact⟨MG,h1,rfl⟩
  ·cases h
 | .unit,l,x,r,vs,h,hv=>by
  simp only[TT.of] at h
  cases h
  exact⟨vs,hv,rfl⟩
 | .sl t,l,x,r,vs,h,hv=>by
  simp only[TT.of] at h
  unfold RR at h
  split at h
  ·simp[gF] at hv
  ·simp[gF] at hv
  ·cases h
 | .pair a b,l,x,r,vs,h,hv=>by
  simp only[TT.of] at h
  split at h
  ·rename_i y m h1
   split at h
   ·rename_i z m' h2
    cases h
    obtain⟨vs1,k1,rfl⟩:=Ed h1 hv
    obtain⟨vs2,k2,rfl⟩:=Ed h2 k1
    exact⟨vs2,k2,by simp[B7]⟩
   ·cases h
  ·cases h
theorem Kt {kt:TT} {v:TV} {x:kt.den} (h:RS kt v=some x):gn v=some (E0 kt x):=by
 unfold RS at h
 split at h
 ·split at h
  ·rename_i vs y h1 h2
   split at h
   ·cases h
    obtain⟨MG,k1,rfl⟩:=Ed h2 h1
    cases k1
    simp only[gn,h1,Option.map_some,E0,gu]
   ·cases h
  ·cases h
 ·cases h
section
variable (P:Program)
def Se (t:TypeId) (a b:Value):Option Bool :=
 match a,b,P.underlying t with
 | .int k a,.int k' b,some (.int _)=>if k'=k then some (a==b) else none
 | .bool a,.bool b,some .bool=>some (a==b)
 | _,_,_=>none
def Fs (E:TypeId→Value→Value→Option Bool) (xs ys:Array Value):List Field→Option Bool
 | []=>some true
 | f :: fs => match f.name != "_", b7 P (part f.type xs f.offset), b7 P (part f.type ys f.offset) with
  | true,some a,some b=>match E f.type a b,Fs E xs ys fs with
   | some u,some r=>some (u&&r)
   | _,_=>none
  | _,_,_=>none
def eqV:Nat→TypeId→Value→Value→Option Bool
 | 0,t,a,b=>Se P t a b
 | n+1,t,a,b=>match a,b with
  | .agg xs,.agg ys=>match P.underlying t,P.stoodInHeld t with
   | some (.struct fs),false=>Fs P (eqV n) xs ys fs.toList
   | _,_=>none
  | a,b=>Se P t a b
end
section
variable {P:Program}
theorem pV {t:TypeId} {fs:Array Field} (h:P.underlying t=some (.struct fs)):P.underlying t=some (.struct (P.fieldsOf t)):=by
 have:P.fieldsOf t=fs:=by simp only[Program.fieldsOf,h]
 rw[this]; exact h
theorem KF {d:Nat} {t:TypeId} {a b:Value} {r:Bool} (h:Se P t a b=some r):b7 P (Op.equalIn (d+1) t a b)=some r:=by
 unfold Se at h
 split at h
 ·rename_i k a k' b k2 hu
  split at h
  ·rename_i hk
   subst hk
   cases h
   exact LY d t _ _ a b hu
  ·cases h
 ·rename_i a b hu
  cases h
  simp only[Op.equalIn,dH,kD hu,Option.bind_some]
  rfl
 ·cases h
theorem AL {E:TypeId→Value→Value→Option Bool} {d:Nat} (hE:∀ t a b r,E t a b=some r→b7 P (Op.equalIn d t a b)=some r) {xs ys:Array Value}:∀ {fs:List Field} {b:Bool},Fs P E xs ys fs=some b→b7 P (Op.eqFields d xs ys fs)=some b
 | [],_,h=>by cases h; exact Ug
 | f::fs,b,h=>by
  unfold Fs at h
  split at h
  ·rename_i a b' hn ha hb
   split at h
   ·rename_i u r h1 h2
    cases h
    have Jg : f.name ≠ "_" := by simpa using hn
    simp only[Op.eqFields,Jg,ne_eq,not_false_eq_true,if_true,dH,ha,hb,Option.bind_some,hE _ _ _ _ h1]
    cases u
    ·rfl
    ·simp only[eO,aD,if_false,Bool.true_and]; exact AL hE h2
   ·cases h
  ·cases h
theorem O4:∀ {n d:Nat} {t:TypeId} {a b:Value} {r:Bool},n<d→eqV P n t a b=some r→b7 P (Op.equalIn d t a b)=some r
 | 0,0,_,_,_,_,hd,_=>by omega
 | 0,d+1,_,_,_,_,_,h=>KF h
 | n+1,0,_,_,_,_,hd,_=>by omega
 | n+1,d+1,t,a,b,r,hd,h=>by
  unfold eqV at h
  split at h
  ·rename_i xs ys
   split at h
   ·rename_i fs h1 h2
    rw[pW d t xs ys (pV h1) h2]
    simp only[Program.fieldsOf,h1]
    exact AL (fun t a b r h=>O4 (by omega) h) h
   ·cases h
  ·exact KF h
end
variable {P:Program} {ty:fI} {tt:TypeId→Option TT} {ι ι' w:lK} {S S':ak} {te mm:List TV} {env:List DV} {tS iT:List TB} {aI:bM} {call:bz} {yf:eE} {o:Oper} {ay nT:Nat} {B:List Nat} {ops:Array Oper}
theorem GM (h:b9 ι te tS env S) (hT:wA tS nT) (hn:wB S ay) (kt:TT):b9 (upd ι nT ay) te (nM tS nT (.map kt [])) env (dP S ay (.map [])):=by
 have K:=sk h hT hn (.map [])
 refine⟨bO K _ _ h.env,fun k l hk => ?_,fun k e s hk t ht => ?_,fun k k' hk => ?_,fun i j k' hi hj => ?_,fun k b hk t ht => ?_⟩
 ·rw[cg hT] at hk
  split at hk
  ·cases hk
  ·rename_i e
   obtain⟨k',gT,h1,h2,h3⟩:=h.cells k l hk
   exact⟨k',gT,by simp only[upd,e,if_false]; exact h1,by rw[aZ hn,if_neg (h.dc hn h1)]; exact h2,bO K _ _ h3⟩
 ·rw[cg hT] at hk
  split at hk
  ·cases hk
  ·rename_i e'
   simp only[upd,e',if_false] at ht
   obtain⟨n,h1⟩:=h.own k e s hk t ht
   exact⟨n,by rw[aZ hn,if_neg (h.dc hn ht)]; exact h1⟩
 ·rw[cg hT]
  split
  ·exact⟨_,rfl,fun e=>by cases e⟩
  ·rename_i e
   simp only[upd,e,if_false] at hk
   exact h.xI k k' hk
 ·unfold upd at hi hj
  split at hi<;>split at hj
  ·omega
  ·cases hi; exact(h.dc hn hj rfl).elim
  ·cases hj; exact(h.dc hn hi rfl).elim
  ·exact h.inj i j k' hi hj
 ·rw[cg hT] at hk
  split at hk
  ·rename_i e'
   cases hk
   simp only[upd,e',if_true,az] at ht
   subst ht
   rw[aZ hn,if_pos rfl]; exact rfl
  ·rename_i e'
   simp only[upd,e',if_false] at ht
   rw[aZ hn,if_neg (h.dc hn ht)]; exact h.mp k b hk t ht
theorem GL (h:b9 ι te tS env S) {id gR:Nat} {kt:TT} {l l':List kt.den} (hi:ι id=some gR) (hl:tS[id]? = some (.map kt l)):b9 ι te (tS.set id (.map kt l')) env (S.set gR (.map (yO kt l'))):=by
 have hS:S[gR]? = some (.map (yO kt l)):=h.mp id _ hl gR hi
 have hlt:=(aJ.1 hl).1
 have NL:=(aJ.1 hS).1
 have K:kV ι S ι (S.set gR (.map (yO kt l'))) fun _=>False:=fun a b _ oW=>⟨oW,by
  rw[aK]
  split
  ·rename_i e1; subst e1; exact zi (by rw[hS]; simp) (by rw[hS]; simp)
  ·exact eW rfl⟩
 have hg:∀ j,(tS.set id (.map kt l'))[j]? = if j=id then some (.map kt l') else tS[j]? := fun j=>by
  rw[aK]
  by_cases e:j=id
  ·subst e; simp[hlt]
  ·rw[if_neg (Ne.symm e),if_neg e]
 have lp:∀ j,j≠gR→(S.set gR (.map (yO kt l')))[j]? = S[j]? := fun j hj=>by rw[aK,if_neg (Ne.symm hj)]
 refine⟨bO K _ _ h.env,fun j m hj => ?_,fun j e s hj t ht => ?_,fun j j' hj => ?_,h.inj,fun j b hj t ht => ?_⟩
 ·rw[hg] at hj
  split at hj
  ·cases hj
  ·rename_i e
   obtain⟨j',NA,h1,h2,h3⟩:=h.cells j m hj
   exact⟨j',NA,h1,by rw[lp j' fun e1=>e (h.inj _ _ _ (e1▸h1) hi)]; exact h2,bO K _ _ h3⟩
 ·rw[hg] at hj
  split at hj
  ·cases hj
  ·obtain⟨n,h1⟩:=h.own j e s hj t ht
   exact⟨n,(K j t (fun e=>e) ht).2.1 _ _ _ h1⟩
 ·rw[hg]
  split
  ·exact⟨_,rfl,by simp⟩
  ·exact h.xI j j' hj
 ·rw[hg] at hj
  split at hj
  ·rename_i e
   subst e
   cases hj
   rw[hi] at ht
   cases ht
   rw[aK,if_pos rfl,if_pos NL]; exact rfl
  ·rename_i e
   rw[lp t fun e1=>e (h.inj _ _ _ (e1▸ht) hi)]
   exact h.mp j b hj t ht
theorem Ut {id:Nat} {kt:TT} {l l':List kt.den} (hB:nL B tS) (hl:tS[id]? = some (.map kt l)):nL B (tS.set id (.map kt l')):=fun k hk=>by
 obtain⟨c,hc⟩:=hB k hk
 refine⟨c,?_⟩
 rw[aK,if_neg]
 ·exact hc
 ·rintro rfl; rw[hl] at hc; cases hc
theorem QD {v:TV} {iT:List TB} {c:Prop} (h:WB P tt te tS o nT=some (v,iT,c)) (hc:c):Does P ty aI call yf B o nT te tS false fun v' ck cu _=>v'=v∧ck=te∧cu=iT:=by
 intro ι w env S ay hR hB hw hT hn hS
 unfold WB at h
 split at h
 ·rename_i t ho
  split at h
  ·rename_i kt ht
   cases h
   refine⟨.map ay,dP S ay (.map []),upd ι nT ay,upd w ay nT,.mp nT,te,_,⟨none,true⟩,⟨none,true⟩,fun _ => ?_,fun hd=>(by cases hd),⟨fun e=>e,fun l hl=>(by cases hl)⟩,fun l m hl=>(by cases hl),GM hR hT hn kt,?_,nv hR hn hT hw,fun hd=>(by cases hd),pg hn (kJ hB hT),jb hB hT,lR hn,rfl,rfl,rfl⟩
   ·simp only[af,ho]
   ·simp[RT,upd]
  ·cases h
 ·rename_i t m k ho
  split at h
  ·rename_i id u h1 h2
   split at h
   ·rename_i kt l h3
    split at h
    ·rename_i x h4
     cases h
     obtain⟨d,k1,k2⟩:=bg hR.env h1
     cases d<;>simp only[RT] at k2
     rename_i gR
     have k3:S[gR]? = some (.map (yO kt l)):=hR.mp id _ h3 gR k2
     have k4:valOf (gX env) k=some (E0 kt x):=eL hR.env (by rw[h2]; exact Kt h4)
     refine⟨.val (.bool (NH kt x l)),S,ι,w,.val (.bool (NH kt x l)),te,tS,⟨none,true⟩,⟨none,true⟩,fun _ => ?_,fun hd=>(by cases hd),⟨fun e=>e,fun l hl=>(by cases hl)⟩,fun l m hl=>(by cases hl),hR,by simp only[RT],hw,fun hd=>(by cases hd),Fr.refl _ _ _,hB,eX _ _,rfl,rfl,rfl⟩
     simp only[af,ho,k1,k4,k3,hc.look x l,Option.bind_some,Fb,xQ]
     rfl
    ·cases h
   ·cases h
  ·cases h
 ·rename_i t m k y ho
  split at h
  ·rename_i id u h1 h2 h5
   split at h
   ·rename_i kt l h3
    split at h
    ·rename_i x h4
     cases h
     obtain⟨d,k1,k2⟩:=bg hR.env h1
     cases d<;>simp only[RT] at k2
     rename_i gR
     have k3:S[gR]? = some (.map (yO kt l)):=hR.mp id _ h3 gR k2
     have k4:valOf (gX env) k=some (E0 kt x):=eL hR.env (by rw[h2]; exact Kt h4)
     have k5:valOf (gX env) y=some (.bool true):=eL hR.env (by rw[h5]; rfl)
     obtain⟨r,k6,k7⟩:=hc.find x l
     refine⟨aX,S.set gR (.map (yO kt (WE kt x l))),ι,w,.unk,te,_,⟨none,true⟩,⟨none,true⟩,fun _ => ?_,fun hd=>(by cases hd),⟨fun e=>e,fun l hl=>(by cases hl)⟩,fun l m hl=>(by cases hl),GL hR k2 h3,by simp only[RT],hw,fun hd=>(by cases hd),wL k2,Ut hB h3,wG k3 (fun e=>by cases e),rfl,rfl,rfl⟩
     simp only[af,ho,k1,k4,k5,k3,k6,k7,Option.map_some]
    ·cases h
   ·cases h
  ·cases h
 ·cases h
end Go.Tv
end
