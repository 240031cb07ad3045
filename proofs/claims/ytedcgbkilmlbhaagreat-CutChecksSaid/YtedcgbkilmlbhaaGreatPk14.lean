import Derived.Test.YtedcgbkilmlbhaaGreatPk13
section
namespace Go.Di
open Go
variable {P:Program} {ty:eY} {x:Cx} {w':World}
def Cx.froze (x:Cx) (w':World) (F:Nat→Prop):Cx:=⟨w',x.μ,x.κ,fun c o=>x.Fz c o∨(c=x.w.heap.size∧F o),x.S⟩
theorem nR {F:Nat→Prop} {ob:Obj} (hR:Rel x) (hp:kU x.w w' ob):bh x (x.froze w' F) where
 size:=by show _≤w'.heap.size; rw[hp.heap]; simp
 env:=hp.env
 fz:=fun c o h=>⟨.inl h,cell_of_block (hp.lt (hR.oq h)) o⟩
 HX:=fun c o h=>by
  rcases h with h | h
  ·exact .inl h
  ·exact .inr (.inl (by omega))
 old:=fun c hc _=>hp.lt hc
 len:=Nat.le_refl _
 cells:=fun id l hl=>⟨rfl,l,hl⟩
 dg:=fun id c hl hc=>⟨rfl,⟨c,hl,dF hc⟩,fun _=>by
  obtain⟨o,h1,-⟩:=hR.dg id c hl hc
  exact hp.lt (bF h1)⟩
 cN:=fun t e s n ht=>⟨n,ht,Nat.le_refl _,fun _=>⟨rfl,rfl⟩⟩
 live:=fun i hi => .inl ⟨hi,rfl⟩
 ops:=fun _ _ _ l z h=>⟨l,z,h,Nat.le_refl _,fun e=>⟨rfl,e⟩,fun _=>⟨rfl,rfl⟩⟩
theorem KH {F:Nat→Prop} {ob:Obj} (hR:Rel x) (hp:kU x.w w' ob) (hF:∀ o,F o→∃ v,w'.cell? ⟨x.w.heap.size,o,none⟩=some v):Rel (x.froze w' F) where
 cells:=fun id l hl=>by
  obtain⟨arr,e,h1,h2,h3⟩:=hR.cells id l hl
  exact⟨arr,e,(hp.lt (bF h1)).trans h1,h2,fun j c hc=>(h3 j c hc).mono (nR hR hp)⟩
 cN:=fun id e s n hl=>by
  obtain⟨arr,h1,h2⟩:=hR.cN id e s n hl
  exact⟨arr,(hp.lt (bF h1)).trans h1,h2⟩
 dg:=fun id c hl hc=>by
  obtain⟨o,h1,h2⟩:=hR.dg id c hl hc
  exact⟨o,(hp.lt (bF h1)).trans h1,h2.mono (nR hR hp)⟩
 inj:=hR.inj
 uV:=fun c o h=>by
  rcases h with h | ⟨rfl,h⟩
  ·obtain⟨v,hv⟩:=hR.uV c o h
   exact⟨v,(cell_of_block (hp.lt (hR.oq h)) o).trans hv⟩
  ·exact hF o h
 sep:=fun id ⟨l,hl⟩ o ho=>by
  rcases ho with ho | ⟨ho,-⟩
  ·exact hR.sep id ⟨l,hl⟩ o ho
  ·have:x.μ id<x.w.heap.size:=hR.fA (aN hl (by simp))
   have ho:x.μ id=x.w.heap.size:=ho
   omega
 lM:=fun id e s n hl o ho=>by
  rcases ho with ho | ⟨ho,-⟩
  ·exact hR.lM id e s n hl o ho
  ·have:x.μ id<x.w.heap.size:=hR.fA (aN hl (by simp))
   have ho:x.μ id=x.w.heap.size:=ho
   omega
 ops:=fun id e s l z hl=>by
  obtain⟨arr,h1,h2,h3,h4,h5,h6,h7⟩:=hR.ops id e s l z hl
  refine⟨arr,(hp.lt (bF h1)).trans h1,h2,h3,h4,fun j c hc=>⟨(h5 j c hc).1,(h5 j c hc).2.mono (nR hR hp)⟩,fun hz j hj => .inl (h6 hz j hj),fun hz o ho => ?_⟩
  rcases ho with ho | ⟨ho,-⟩
  ·exact h7 hz o ho
  ·have:x.μ id<x.w.heap.size:=hR.fA (aN hl (by simp))
   have ho:x.μ id=x.w.heap.size:=ho
   omega
def Cx.upd (x:Cx) (id:Nat) (arr:Array Value) (F:Nat→Prop) (b:DB):Cx:=⟨x.w.setRow (x.μ id) arr,x.μ,x.κ,fun c o=>x.Fz c o∨(c=x.μ id∧F o),x.S.set id b⟩
theorem cI {S:ak} {id:Nat} {b0:DB} (h:S[id]? = some b0) (b:DB) (j:Nat):(S.set id b)[j]? = if j=id then some b else S[j]? := by
 have hlt:=(List.getElem?_eq_some_iff.1 h).1
 rw[List.getElem?_set]
 by_cases h1:j=id
 ·subst h1; simp[hlt]
 ·rw[if_neg (Ne.symm h1),if_neg h1]
theorem pq {id:Nat} {arr:Array Value} {F:Nat→Prop} {b0 b:DB} (hR:Rel x) (h0:x.S[id]? = some b0)
  (hb:(∃ l l',b0 = .cells l∧b = .cells l')∨(∃ e s n n',b0 = .tail e s n∧b = .tail e s n'∧n≤n'∧∀ o,o<n→(x.w.setRow (x.μ id) arr).cell? ⟨x.μ id,o,none⟩=x.w.cell? ⟨x.μ id,o,none⟩)∨(∃ e s l l',b0 = .op e s l false∧b = .op e s l' false∧l.length≤l'.length)):bh x (x.upd id arr F b):=by
 have AD:b0 ≠ .none:=by rcases hb with ⟨l,l',rfl,-⟩ | ⟨e,s,n,n',rfl,-⟩ | ⟨e,s,l,l',rfl,-⟩<;>simp
 have hne:b ≠ .none:=by rcases hb with ⟨l,l',-,rfl⟩ | ⟨e,s,n,n',-,rfl,-⟩ | ⟨e,s,l,l',-,rfl,-⟩<;>simp
 have aP:∀ j,(x.upd id arr F b).S[j]? = if j=id then some b else x.S[j]? := fun j=>cI h0 b j
 refine⟨by show _≤(x.w.setRow _ _).heap.size; rw[setRow_size]; exact Nat.le_refl _,⟨rfl,rfl⟩,fun c o h=>⟨.inl h,?_⟩,fun c o h => ?_,fun c hc hn => ?_,by show _≤(x.S.set _ _).length; simp,fun i l hl=>⟨rfl,?_⟩,fun i c hl hc=>⟨rfl,?_,?_⟩,fun t e s n ht => ?_,fun i hi => .inl ⟨?_,rfl⟩,fun t e s l z ht => ?_⟩
 ·show (x.w.setRow _ _).cell? _=_
  by_cases hc:c=x.μ id
  ·subst hc
   rcases hb with ⟨l,l',rfl,-⟩ | ⟨e,s,n,n',rfl,-,-,hk⟩ | ⟨e,s,l,l',rfl,-⟩
   ·exact absurd h (hR.sep id ⟨l,h0⟩ o)
   ·exact hk o (hR.lM id e s n h0 o h)
   ·obtain⟨-,-,-,-,-,-,-,k⟩:=hR.ops id e s l false h0
    exact absurd h (k rfl o)
  ·exact cell_setRow_other _ _ _ _ hc
 ·rcases h with h | ⟨rfl,-⟩
  ·exact .inl h
  ·exact .inr (.inr ⟨id,aN h0 AD,rfl⟩)
 ·exact setRow_other _ _ _ _ fun e=>hn id (aN h0 AD) e.symm
 ·rw[aP]
  split
  ·rename_i e
   subst e
   rw[h0] at hl
   cases hl
   rcases hb with ⟨l,l',-,rfl⟩ | ⟨e,s,n,n',h1,-⟩ | ⟨e,s,l,l',h1,-⟩
   ·exact⟨l',rfl⟩
   ·cases h1
   ·cases h1
  ·exact⟨l,hl⟩
 ·rw[aP]
  split
  ·rename_i e
   subst e
   rw[h0] at hl
   cases hl
   rcases hb with ⟨l,l',h1,-⟩ | ⟨e,s,n,n',h1,-⟩ | ⟨e,s,l,l',h1,-⟩<;>(subst h1; cases hc)
  ·exact⟨c,hl,dF hc⟩
 ·rintro rfl
  refine setRow_other _ _ _ _ fun e => ?_
  have:=hR.inj i id (aN hl (by simp)) (aN h0 AD) e
  subst this
  rw[h0] at hl
  cases hl
  rcases hb with ⟨l,l',h1,-⟩ | ⟨e,s,n,n',h1,-⟩ | ⟨e,s,l,l',h1,-⟩<;>cases h1
 ·by_cases e1:t=id
  ·subst e1
   rw[h0] at ht
   cases ht
   rcases hb with ⟨l,l',h1,-⟩ | ⟨e,s,n,n',h1,rfl,h3,-⟩ | ⟨e,s,l,l',h1,-⟩
   ·cases h1
   ·cases h1
    exact⟨n',by rw[aP,if_pos rfl],h3,fun _=>⟨rfl,rfl⟩⟩
   ·cases h1
  ·exact⟨n,by rw[aP,if_neg e1]; exact ht,Nat.le_refl _,fun _=>⟨rfl,rfl⟩⟩
 ·obtain⟨c,hc,Aj⟩:=hi
  rw[aP] at hc
  split at hc
  ·rename_i e; subst e; exact aN h0 AD
  ·exact⟨c,hc,Aj⟩
 ·by_cases e1:t=id
  ·subst e1
   rw[h0] at ht
   cases ht
   rcases hb with ⟨l,l',h1,-⟩ | ⟨e,s,n,n',h1,-⟩ | ⟨e,s,l,l',h1,rfl,h3⟩
   ·cases h1
   ·cases h1
   ·cases h1
    exact⟨l',false,by rw[aP,if_pos rfl],h3,by simp,fun _=>⟨rfl,rfl⟩⟩
  ·exact⟨l,z,by rw[aP,if_neg e1]; exact ht,Nat.le_refl _,fun e=>⟨rfl,e⟩,fun _=>⟨rfl,rfl⟩⟩
theorem xN {id:Nat} {arr:Array Value} {F:Nat→Prop} {b0 b:DB} (hR:Rel x) (h0:x.S[id]? = some b0)
  (hb:(∃ l l',b0 = .cells l∧b = .cells l'∧(∀ o,¬ F o)∧arr.size=l'.length∧∀ j c,l'[j]? = some c→RV x c (arr.getD j undef)) ∨
   (∃ e s n n',b0 = .tail e s n∧b = .tail e s n'∧n≤n'∧(∀ o,o<n→(x.w.setRow (x.μ id) arr).cell? ⟨x.μ id,o,none⟩=x.w.cell? ⟨x.μ id,o,none⟩)∧arr.size=x.κ id*s∧n'≤arr.size∧∀ o,F o→o<n') ∨
   (∃ e s l l',b0 = .op e s l false∧b = .op e s l' false∧l.length≤l'.length∧(∀ o,¬ F o)∧arr.size=x.κ id*s∧l'.length≤arr.size∧∀ j c,l'[j]? = some c→c.bn=true∧RV x c (arr.getD j undef))):Rel (x.upd id arr F b):=by
 have kL:(∃ l l',b0 = .cells l∧b = .cells l')∨(∃ e s n n',b0 = .tail e s n∧b = .tail e s n'∧n≤n'∧∀ o,o<n→(x.w.setRow (x.μ id) arr).cell? ⟨x.μ id,o,none⟩=x.w.cell? ⟨x.μ id,o,none⟩)∨(∃ e s l l',b0 = .op e s l false∧b = .op e s l' false∧l.length≤l'.length):=by
  rcases hb with ⟨l,l',h1,h2,-⟩ | ⟨e,s,n,n',h1,h2,h3,h4,-⟩ | ⟨e,s,l,l',h1,h2,h3,-⟩
  ·exact .inl ⟨l,l',h1,h2⟩
  ·exact .inr (.inl ⟨e,s,n,n',h1,h2,h3,h4⟩)
  ·exact .inr (.inr ⟨e,s,l,l',h1,h2,h3⟩)
 have M:=pq (F:=F) hR h0 kL
 have AD:b0 ≠ .none:=by rcases hb with ⟨l,l',rfl,-⟩ | ⟨e,s,n,n',rfl,-⟩ | ⟨e,s,l,l',rfl,-⟩<;>simp
 have aP:∀ j,(x.upd id arr F b).S[j]? = if j=id then some b else x.S[j]? := fun j=>cI h0 b j
 have hold:∃ old e,x.w.heap[x.μ id]? = some (.cells old e (0,0))∧(∀ e' s n,b0 = .tail e' s n→e=e'∧x.κ id≤maxLen)∧∀ e' s l z,b0 = .op e' s l z→e=e'∧x.κ id≤maxLen:=by
  rcases hb with ⟨l,l',rfl,-⟩ | ⟨e,s,n,n',rfl,-⟩ | ⟨e,s,l,l',rfl,-⟩
  ·obtain⟨a,e,h1,-⟩:=hR.cells id l h0
   exact⟨a,e,h1,by simp,by simp⟩
  ·obtain⟨a,h1,-,-,h4⟩:=hR.cN id e s n h0
   exact⟨a,e,h1,fun e' s' n' h=>by cases h; exact⟨rfl,h4⟩,by simp⟩
  ·obtain⟨a,h1,-,-,h4,-⟩:=hR.ops id e s l false h0
   exact⟨a,e,h1,by simp,fun e' s' l' z h=>by cases h; exact⟨rfl,h4⟩⟩
 obtain⟨old,e0,hh,he0,Y2⟩:=hold
 have qO:(x.w.setRow (x.μ id) arr).heap[x.μ id]? = some (.cells arr e0 (0,0)):=setRow_heap _ _ _ _ _ _ hh
 have kT:∀ i,Live (x.upd id arr F b).S i→Live x.S i:=fun i hi=>by
  rcases M.live i hi with ⟨h,-⟩ | h
  ·exact h
  ·obtain⟨c,hc,Aj⟩:=hi
   rw[aP] at hc
   split at hc
   ·rename_i e; subst e; exact aN h0 AD
   ·exact⟨c,hc,Aj⟩
 have Cg:∀ i,i≠id→Live x.S i→(x.w.setRow (x.μ id) arr).heap[x.μ i]? = x.w.heap[x.μ i]? := fun i hi hl=>setRow_other _ _ _ _ fun e=>hi (hR.inj i id hl (aN h0 AD) e)
 constructor
 ·intro i l hl
  rw[aP] at hl
  by_cases h:i=id
  ·subst h
   rw[if_pos rfl] at hl
   cases hl
   rcases hb with ⟨l0,l',h1,h2,h3,h4,h5⟩ | ⟨e,s,n,n',h1,h2,-⟩ | ⟨e,s,l,l',h1,h2,-⟩
   ·cases h2
    exact⟨arr,e0,qO,h4,fun j c hc=>(h5 j c hc).mono M⟩
   ·cases h2
   ·cases h2
  ·rw[if_neg h] at hl
   obtain⟨a,e,h1,h2,h3⟩:=hR.cells i l hl
   exact⟨a,e,(Cg i h (aN hl (by simp))).trans h1,h2,fun j c hc=>(h3 j c hc).mono M⟩
 ·intro i e s n hl
  rw[aP] at hl
  by_cases h:i=id
  ·subst h
   rw[if_pos rfl] at hl
   cases hl
   rcases hb with ⟨l0,l',h1,h2,-⟩ | ⟨e',s',m,m',h1,h2,h3,h4,h5,h6,h7⟩ | ⟨e,s,l,l',h1,h2,-⟩
   ·cases h2
   ·cases h2
    obtain⟨k1,k2⟩:=he0 _ _ _ h1
    subst k1
    exact⟨arr,qO,h5,h6,k2⟩
   ·cases h2
  ·rw[if_neg h] at hl
   obtain⟨a,h1,h2⟩:=hR.cN i e s n hl
   exact⟨a,(Cg i h (aN hl (by simp))).trans h1,h2⟩
 ·intro i c hl hc
  rw[aP] at hl
  by_cases h:i=id
  ·subst h
   rw[if_pos rfl] at hl
   cases hl
   rcases hb with ⟨l0,l',h1,h2,-⟩ | ⟨e',s',m,m',h1,h2,-⟩ | ⟨e,s,l,l',h1,h2,-⟩<;>(subst h2; cases hc)
  ·rw[if_neg h] at hl
   obtain⟨o,h1,h2⟩:=hR.dg i c hl hc
   exact⟨o,(Cg i h (aN hl (ez hc))).trans h1,h2.mono M⟩
 ·exact fun i j hi hj he=>hR.inj i j (kT i hi) (kT j hj) he
 ·intro c o h
  rcases h with h | ⟨rfl,h⟩
  ·obtain⟨v,hv⟩:=hR.uV c o h
   exact⟨v,(M.fz c o h).2.trans hv⟩
  ·rcases hb with ⟨l0,l',-,-,h3,-⟩ | ⟨e',s',m,m',-,-,-,-,h5,h6,h7⟩ | ⟨e,s,l,l',-,-,-,h3,-⟩
   ·exact absurd h (h3 o)
   ·have:=h7 o h
    refine⟨arr[o]'(by omega),?_⟩
    show (x.w.setRow _ _).cell? _=_
    rw[cell_setRow_same _ _ _ _ _ _ _ hh]
    exact Array.getElem?_eq_getElem _
   ·exact absurd h (h3 o)
 ·rintro i ⟨l,hl⟩ o ho
  rw[aP] at hl
  by_cases h:i=id
  ·subst h
   rw[if_pos rfl] at hl
   cases hl
   rcases hb with ⟨l0,l',h1,h2,h3,-⟩ | ⟨e',s',m,m',h1,h2,-⟩ | ⟨e,s,l,l',h1,h2,-⟩
   ·subst h1
    rcases ho with ho | ⟨-,ho⟩
    ·exact hR.sep i ⟨l0,h0⟩ o ho
    ·exact h3 o ho
   ·cases h2
   ·cases h2
  ·rw[if_neg h] at hl
   rcases ho with ho | ⟨ho,-⟩
   ·exact hR.sep i ⟨l,hl⟩ o ho
   ·exact h (hR.inj i id (aN hl (by simp)) (aN h0 AD) ho)
 ·intro i e s n hl o ho
  rw[aP] at hl
  by_cases h:i=id
  ·subst h
   rw[if_pos rfl] at hl
   cases hl
   rcases hb with ⟨l0,l',h1,h2,-⟩ | ⟨e',s',m,m',h1,h2,h3,-,-,-,h7⟩ | ⟨e,s,l,l',h1,h2,-⟩
   ·cases h2
   ·cases h2
    subst h1
    rcases ho with ho | ⟨-,ho⟩
    ·exact Nat.lt_of_lt_of_le (hR.lM i _ _ _ h0 o ho) h3
    ·exact h7 o ho
   ·cases h2
  ·rw[if_neg h] at hl
   rcases ho with ho | ⟨ho,-⟩
   ·exact hR.lM i e s n hl o ho
   ·exact(h (hR.inj i id (aN hl (by simp)) (aN h0 AD) ho)).elim
 ·intro i e s l z hl
  rw[aP] at hl
  by_cases h:i=id
  ·subst h
   rw[if_pos rfl] at hl
   cases hl
   rcases hb with ⟨l0,l',h1,h2,-⟩ | ⟨e',s',m,m',h1,h2,-⟩ | ⟨e',s',l0,l',h1,h2,h3,h4,h5,h6,h7⟩
   ·cases h2
   ·cases h2
   ·cases h2
    obtain⟨k1,k2⟩:=Y2 _ _ _ _ h1
    subst k1
    refine⟨arr,qO,h5,h6,k2,fun j c hc=>⟨(h7 j c hc).1,(h7 j c hc).2.mono M⟩,by simp,fun _ o ho => ?_⟩
    rcases ho with ho | ⟨-,ho⟩
    ·subst h1
     obtain⟨-,-,-,-,-,-,-,k⟩:=hR.ops i _ _ _ _ h0
     exact k rfl o ho
    ·exact h4 o ho
  ·rw[if_neg h] at hl
   obtain⟨a,h1,h2,h3,h4,h5,h6,h7⟩:=hR.ops i e s l z hl
   refine⟨a,(Cg i h (aN hl (by simp))).trans h1,h2,h3,h4,fun j c hc=>⟨(h5 j c hc).1,(h5 j c hc).2.mono M⟩,fun hz j hj => .inl (h6 hz j hj),fun hz o ho => ?_⟩
   rcases ho with ho | ⟨ho,-⟩
   ·exact h7 hz o ho
   ·exact h (hR.inj i id (aN hl (by simp)) (aN h0 AD) ho)
def Cx.ij (x:Cx) (w':World) (t k:Nat) (F:Nat→Prop) (b:DB):Cx :=
 ⟨w',fun i=>if i=t then x.w.heap.size else x.μ i,fun i=>if i=t then k else x.κ i,fun c o=>x.Fz c o∨(c=x.w.heap.size∧F o),x.S.set t b⟩
theorem zW {t k:Nat} {F:Nat→Prop} {ob:Obj} {e:TypeId} {s n n':Nat} (hR:Rel x) (h0:x.S[t]? = some (.tail e s n)) (hp:kU x.w w' ob) (hlt:n<n'):bh x (x.ij w' t k F (.tail e s n')):=by
 have aP:∀ j,(x.ij w' t k F (.tail e s n')).S[j]? = if j=t then some (.tail e s n') else x.S[j]? := fun j=>cI h0 _ j
 refine⟨by show _≤w'.heap.size; rw[hp.heap]; simp,hp.env,fun c o h=>⟨.inl h,cell_of_block (hp.lt (hR.oq h)) o⟩,fun c o h => ?_,fun c hc _=>hp.lt hc,by show _≤(x.S.set _ _).length; simp,fun i l hl => ?_,fun i c hl hc => ?_,fun i e1 s1 n1 hl => ?_,fun i hi => ?_,fun i e1 s1 l z hl => ?_⟩
 ·rcases h with h | h
  ·exact .inl h
  ·exact .inr (.inl (by omega))
 ·have hne:i≠t:=by rintro rfl; rw[h0] at hl; cases hl
  exact⟨if_neg hne,l,by rw[aP,if_neg hne]; exact hl⟩
 ·have hne:i≠t:=by rintro rfl; rw[h0] at hl; cases hl; cases hc
  exact⟨if_neg hne,⟨c,by rw[aP,if_neg hne]; exact hl,dF hc⟩,fun _=>by
   obtain⟨o,h1,-⟩:=hR.dg i c hl hc
   exact hp.lt (bF h1)⟩
 ·by_cases hne:i=t
  ·subst hne
   rw[h0] at hl
   cases hl
   exact⟨n',by rw[aP,if_pos rfl],by omega,fun h=>by omega⟩
  ·exact⟨n1,by rw[aP,if_neg hne]; exact hl,Nat.le_refl _,fun _=>⟨if_neg hne,if_neg hne⟩⟩
 ·by_cases hne:i=t
  ·right
   subst hne
   show _≤(if _ then _ else _)
   rw[if_pos rfl]
   exact Nat.le_refl _
  ·left
   obtain⟨c,hc,Aj⟩:=hi
   rw[aP,if_neg hne] at hc
   exact⟨⟨c,hc,Aj⟩,if_neg hne⟩
 ·have hne:i≠t:=by rintro rfl; rw[h0] at hl; cases hl
  exact⟨l,z,by rw[aP,if_neg hne]; exact hl,Nat.le_refl _,fun e=>⟨rfl,e⟩,fun _=>⟨if_neg hne,if_neg hne⟩⟩
theorem KF {t k:Nat} {F:Nat→Prop} {e:TypeId} {s n n':Nat} {arr:Array Value} (hR:Rel x) (h0:x.S[t]? = some (.tail e s n)) (hp:kU x.w w' (.cells arr e (0,0))) (hlt:n<n')
  (hs:arr.size=k*s) (hn:n'≤arr.size) (hk:k≤maxLen) (hF:∀ o,F o→o<n'):Rel (x.ij w' t k F (.tail e s n')):=by
 have M:=zW (k:=k) (F:=F) hR h0 hp hlt
 have aP:∀ j,(x.ij w' t k F (.tail e s n')).S[j]? = if j=t then some (.tail e s n') else x.S[j]? := fun j=>cI h0 _ j
 have hμ:∀ i,i≠t→(x.ij w' t k F (.tail e s n')).μ i=x.μ i:=fun i h=>if_neg h
 have hκ:∀ i,i≠t→(x.ij w' t k F (.tail e s n')).κ i=x.κ i:=fun i h=>if_neg h
 have hμn:(x.ij w' t k F (.tail e s n')).μ t=x.w.heap.size:=if_pos rfl
 have hκn:(x.ij w' t k F (.tail e s n')).κ t=k:=if_pos rfl
 have kT:∀ i,Live (x.ij w' t k F (.tail e s n')).S i→Live x.S i:=by
  rintro i ⟨c,hc,Aj⟩
  rw[aP] at hc
  split at hc
  ·rename_i h; subst h; exact aN h0 (by simp)
  ·exact⟨c,hc,Aj⟩
 constructor
 ·intro i l hl
  rw[aP] at hl
  by_cases h:i=t
  ·rw[if_pos h] at hl; cases hl
  ·rw[if_neg h] at hl
   obtain⟨a,e,h1,h2,h3⟩:=hR.cells i l hl
   rw[hμ i h]
   exact⟨a,e,(hp.lt (bF h1)).trans h1,h2,fun j c hc=>(h3 j c hc).mono M⟩
 ·intro i e1 s1 n1 hl
  rw[aP] at hl
  by_cases h:i=t
  ·subst h
   rw[if_pos rfl] at hl
   cases hl
   rw[hμn,hκn]
   exact⟨arr,hp.new,hs,hn,hk⟩
  ·rw[if_neg h] at hl
   obtain⟨a,h1,h2⟩:=hR.cN i e1 s1 n1 hl
   rw[hμ i h,hκ i h]
   exact⟨a,(hp.lt (bF h1)).trans h1,h2⟩
 ·intro i c hl hc
  rw[aP] at hl
  by_cases h:i=t
  ·rw[if_pos h] at hl; cases hl; cases hc
  ·rw[if_neg h] at hl
   obtain⟨o,h1,h2⟩:=hR.dg i c hl hc
   rw[hμ i h]
   exact⟨o,(hp.lt (bF h1)).trans h1,h2.mono M⟩
 ·intro i j hi hj he
  by_cases h1:i=t
  ·by_cases h2:j=t
   ·rw[h1,h2]
   ·rw[h1,hμn,hμ j h2] at he
    have:=hR.fA (kT j hj)
    omega
  ·by_cases h2:j=t
   ·rw[h2,hμn,hμ i h1] at he
    have:=hR.fA (kT i hi)
    omega
   ·rw[hμ i h1,hμ j h2] at he
    exact hR.inj i j (kT i hi) (kT j hj) he
 ·intro c o h
  rcases h with h | ⟨rfl,h⟩
  ·obtain⟨v,hv⟩:=hR.uV c o h
   exact⟨v,(M.fz c o h).2.trans hv⟩
  ·have:=hF o h
   refine⟨arr[o]'(by omega),?_⟩
   show w'.cell? _=_
   simp only[World.cell?,hp.new]
   exact Array.getElem?_eq_getElem _
 ·rintro i ⟨l,hl⟩ o ho
  rw[aP] at hl
  by_cases h:i=t
  ·rw[if_pos h] at hl; cases hl
  ·rw[if_neg h] at hl
   rw[hμ i h] at ho
   rcases ho with ho | ⟨ho,-⟩
   ·exact hR.sep i ⟨l,hl⟩ o ho
   ·have:=hR.fA (aN hl (by simp)); omega
 ·intro i e1 s1 n1 hl o ho
  rw[aP] at hl
  by_cases h:i=t
  ·subst h
   rw[if_pos rfl] at hl
   cases hl
   rw[hμn] at ho
   rcases ho with ho | ⟨-,ho⟩
   ·have:=hR.oq ho; omega
   ·exact hF o ho
  ·rw[if_neg h] at hl
   rw[hμ i h] at ho
   rcases ho with ho | ⟨ho,-⟩
   ·exact hR.lM i e1 s1 n1 hl o ho
   ·have:=hR.fA (aN hl (by simp)); omega
 ·intro i e1 s1 l z hl
  rw[aP] at hl
  by_cases h:i=t
  ·rw[if_pos h] at hl; cases hl
  ·rw[if_neg h] at hl
   obtain⟨a,h1,h2,h3,h4,h5,h6,h7⟩:=hR.ops i e1 s1 l z hl
   rw[hμ i h,hκ i h]
   refine⟨a,(hp.lt (bF h1)).trans h1,h2,h3,h4,fun j c hc=>⟨(h5 j c hc).1,(h5 j c hc).2.mono M⟩,fun hz j hj => .inl (h6 hz j hj),fun hz o ho => ?_⟩
   rcases ho with ho | ⟨ho,-⟩
   ·exact h7 hz o ho
   ·have:=hR.fA (aN hl (by simp)); omega
theorem Bx {t k:Nat} {ob:Obj} {e:TypeId} {s:Nat} {l l':List DV} (hR:Rel x) (h0:x.S[t]? = some (.op e s l false)) (hp:kU x.w w' ob) (hlt:l.length<l'.length):bh x (x.ij w' t k (fun _=>False) (.op e s l' false)):=by
 have aP:∀ j,(x.ij w' t k (fun _=>False) (.op e s l' false)).S[j]? = if j=t then some (.op e s l' false) else x.S[j]? := fun j=>cI h0 _ j
 refine⟨by show _≤w'.heap.size; rw[hp.heap]; simp,hp.env,fun c o h=>⟨.inl h,cell_of_block (hp.lt (hR.oq h)) o⟩,fun c o h => ?_,fun c hc _=>hp.lt hc,by show _≤(x.S.set _ _).length; simp,fun i l hl => ?_,fun i c hl hc => ?_,fun i e1 s1 n1 hl => ?_,fun i hi => ?_,fun i e1 s1 l1 z hl => ?_⟩
 ·rcases h with h | h
  ·exact .inl h
  ·exact h.2.elim
 ·have hne:i≠t:=by rintro rfl; rw[h0] at hl; cases hl
  exact⟨if_neg hne,l,by rw[aP,if_neg hne]; exact hl⟩
 ·have hne:i≠t:=by rintro rfl; rw[h0] at hl; cases hl; cases hc
  exact⟨if_neg hne,⟨c,by rw[aP,if_neg hne]; exact hl,dF hc⟩,fun _=>by
   obtain⟨o,h1,-⟩:=hR.dg i c hl hc
   exact hp.lt (bF h1)⟩
 ·have hne:i≠t:=by rintro rfl; rw[h0] at hl; cases hl
  exact⟨n1,by rw[aP,if_neg hne]; exact hl,Nat.le_refl _,fun _=>⟨if_neg hne,if_neg hne⟩⟩
 ·by_cases hne:i=t
  ·right
   subst hne
   show _≤(if _ then _ else _)
   rw[if_pos rfl]
   exact Nat.le_refl _
  ·left
   obtain⟨c,hc,Aj⟩:=hi
   rw[aP,if_neg hne] at hc
   exact⟨⟨c,hc,Aj⟩,if_neg hne⟩
 ·by_cases hne:i=t
  ·subst hne
   rw[h0] at hl
   cases hl
   exact⟨l',false,by rw[aP,if_pos rfl],by omega,by simp,fun h=>by omega⟩
  ·exact⟨l1,z,by rw[aP,if_neg hne]; exact hl,Nat.le_refl _,fun e=>⟨rfl,e⟩,fun _=>⟨if_neg hne,if_neg hne⟩⟩
theorem OL {t k:Nat} {e:TypeId} {s:Nat} {l l':List DV} {arr:Array Value} (hR:Rel x) (h0:x.S[t]? = some (.op e s l false)) (hp:kU x.w w' (.cells arr e (0,0))) (hlt:l.length<l'.length)
  (hs:arr.size=k*s) (hn:l'.length≤arr.size) (hk:k≤maxLen) (hc:∀ j c,l'[j]? = some c→c.bn=true∧RV x c (arr.getD j undef)):Rel (x.ij w' t k (fun _=>False) (.op e s l' false)):=by
 have M:=Bx (k:=k) hR h0 hp hlt
 have aP:∀ j,(x.ij w' t k (fun _=>False) (.op e s l' false)).S[j]? = if j=t then some (.op e s l' false) else x.S[j]? := fun j=>cI h0 _ j
 have hμ:∀ i,i≠t→(x.ij w' t k (fun _=>False) (.op e s l' false)).μ i=x.μ i:=fun i h=>if_neg h
 have hκ:∀ i,i≠t→(x.ij w' t k (fun _=>False) (.op e s l' false)).κ i=x.κ i:=fun i h=>if_neg h
 have hμn:(x.ij w' t k (fun _=>False) (.op e s l' false)).μ t=x.w.heap.size:=if_pos rfl
 have hκn:(x.ij w' t k (fun _=>False) (.op e s l' false)).κ t=k:=if_pos rfl
 have Ga:∀ c o,(x.ij w' t k (fun _=>False) (.op e s l' false)).Fz c o→x.Fz c o:=fun c o h=>h.elim id fun h=>h.2.elim
 have kT:∀ i,Live (x.ij w' t k (fun _=>False) (.op e s l' false)).S i→Live x.S i:=by
  rintro i ⟨c,hc,Aj⟩
  rw[aP] at hc
  split at hc
  ·rename_i h; subst h; exact aN h0 (by simp)
  ·exact⟨c,hc,Aj⟩
 constructor
 ·intro i l1 hl
  rw[aP] at hl
  by_cases h:i=t
  ·rw[if_pos h] at hl; cases hl
  ·rw[if_neg h] at hl
   obtain⟨a,e,h1,h2,h3⟩:=hR.cells i l1 hl
   rw[hμ i h]
   exact⟨a,e,(hp.lt (bF h1)).trans h1,h2,fun j c hc=>(h3 j c hc).mono M⟩
 ·intro i e1 s1 n1 hl
  rw[aP] at hl
  by_cases h:i=t
  ·rw[if_pos h] at hl; cases hl
  ·rw[if_neg h] at hl
   obtain⟨a,h1,h2⟩:=hR.cN i e1 s1 n1 hl
   rw[hμ i h,hκ i h]
   exact⟨a,(hp.lt (bF h1)).trans h1,h2⟩
 ·intro i c hl hc
  rw[aP] at hl
  by_cases h:i=t
  ·rw[if_pos h] at hl; cases hl; cases hc
  ·rw[if_neg h] at hl
   obtain⟨o,h1,h2⟩:=hR.dg i c hl hc
   rw[hμ i h]
   exact⟨o,(hp.lt (bF h1)).trans h1,h2.mono M⟩
 ·intro i j hi hj he
  by_cases h1:i=t
  ·by_cases h2:j=t
   ·rw[h1,h2]
   ·rw[h1,hμn,hμ j h2] at he
    have:=hR.fA (kT j hj)
    omega
  ·by_cases h2:j=t
   ·rw[h2,hμn,hμ i h1] at he
    have:=hR.fA (kT i hi)
    omega
   ·rw[hμ i h1,hμ j h2] at he
    exact hR.inj i j (kT i hi) (kT j hj) he
 ·intro c o h
  have h:=Ga c o h
  obtain⟨v,hv⟩:=hR.uV c o h
  exact⟨v,(M.fz c o h).2.trans hv⟩
 ·rintro i ⟨l1,hl⟩ o ho
  rw[aP] at hl
  by_cases h:i=t
  ·rw[if_pos h] at hl; cases hl
  ·rw[if_neg h] at hl
   rw[hμ i h] at ho
   exact hR.sep i ⟨l1,hl⟩ o (Ga _ _ ho)
 ·intro i e1 s1 n1 hl o ho
  rw[aP] at hl
  by_cases h:i=t
  ·rw[if_pos h] at hl; cases hl
  ·rw[if_neg h] at hl
   rw[hμ i h] at ho
   exact hR.lM i e1 s1 n1 hl o (Ga _ _ ho)
 ·intro i e1 s1 l1 z hl
  rw[aP] at hl
  by_cases h:i=t
  ·subst h
   rw[if_pos rfl] at hl
   cases hl
   rw[hμn,hκn]
   refine⟨arr,hp.new,hs,hn,hk,fun j c h=>⟨(hc j c h).1,(hc j c h).2.mono M⟩,by simp,fun _ o ho => ?_⟩
   have:=hR.oq (Ga _ _ ho)
   omega
  ·rw[if_neg h] at hl
   obtain⟨a,h1,h2,h3,h4,h5,h6,h7⟩:=hR.ops i e1 s1 l1 z hl
   rw[hμ i h,hκ i h]
   exact⟨a,(hp.lt (bF h1)).trans h1,h2,h3,h4,fun j c hc=>⟨(h5 j c hc).1,(h5 j c hc).2.mono M⟩,fun hz j hj => .inl (h6 hz j hj),fun hz o ho=>h7 hz o (Ga _ _ ho)⟩
def Cx.close (x:Cx) (id:Nat) (e:TypeId) (s:Nat) (l:List DV):Cx:=⟨x.w,x.μ,x.κ,fun c o=>x.Fz c o∨(c=x.μ id∧o<l.length),x.S.set id (.op e s l true)⟩
theorem zX {id:Nat} {e:TypeId} {s:Nat} {l:List DV} (h0:x.S[id]? = some (.op e s l false)):bh x (x.close id e s l):=by
 have aP:∀ j,(x.close id e s l).S[j]? = if j=id then some (.op e s l true) else x.S[j]? := fun j=>cI h0 _ j
 have hne:∀ {i c},x.S[i]? = some c→(∀ e s l z,c≠DB.op e s l z)→(x.close id e s l).S[i]? = some c:=fun {i c} h hc=>by
  rw[aP,if_neg]
  ·exact h
  ·rintro rfl
   rw[h0] at h
   cases h
   exact hc _ _ _ _ rfl
 refine⟨Nat.le_refl _,⟨rfl,rfl⟩,fun c o h=>⟨.inl h,rfl⟩,fun c o h => ?_,fun c hc _=>rfl,by show _≤(x.S.set _ _).length; simp,fun i l hl=>⟨rfl,l,hne hl (by simp)⟩,fun i c hl hc=>⟨rfl,⟨c,hne hl (by rintro _ _ _ _ rfl; cases hc),dF hc⟩,fun _=>rfl⟩,fun i e1 s1 n1 hl=>⟨n1,hne hl (by simp),Nat.le_refl _,fun _=>⟨rfl,rfl⟩⟩,fun i hi => .inl ⟨?_,rfl⟩,fun i e1 s1 l1 z hl => ?_⟩
 ·rcases h with h | ⟨rfl,-⟩
  ·exact .inl h
  ·exact .inr (.inr ⟨id,aN h0 (by simp),rfl⟩)
 ·obtain⟨c,hc,Aj⟩:=hi
  rw[aP] at hc
  split at hc
  ·rename_i e; subst e; exact aN h0 (by simp)
  ·exact⟨c,hc,Aj⟩
 ·by_cases h:i=id
  ·subst h
   rw[h0] at hl
   cases hl
   exact⟨l,true,by rw[aP,if_pos rfl],Nat.le_refl _,by simp,fun _=>⟨rfl,rfl⟩⟩
  ·exact⟨l1,z,by rw[aP,if_neg h]; exact hl,Nat.le_refl _,fun e=>⟨rfl,e⟩,fun _=>⟨rfl,rfl⟩⟩
theorem KL {id:Nat} {e:TypeId} {s:Nat} {l:List DV} (hR:Rel x) (h0:x.S[id]? = some (.op e s l false)):Rel (x.close id e s l):=by
 have M:=zX (x:=x) h0
 have aP:∀ j,(x.close id e s l).S[j]? = if j=id then some (.op e s l true) else x.S[j]? := fun j=>cI h0 _ j
 have hgo:∀ {i c},(x.close id e s l).S[i]? = some c→(∀ e s l z,c≠DB.op e s l z)→x.S[i]? = some c∧i≠id:=fun {i c} h hc=>by
  rw[aP] at h
  split at h
  ·cases h; exact absurd rfl (hc _ _ _ _)
  ·exact⟨h,‹_›⟩
 have kT:∀ i,Live (x.close id e s l).S i→Live x.S i:=fun i hi=>by
  obtain⟨c,hc,Aj⟩:=hi
  rw[aP] at hc
  split at hc
  ·rename_i e; subst e; exact aN h0 (by simp)
  ·exact⟨c,hc,Aj⟩
 obtain⟨arr,a1,a2,a3,a4,a5,-,-⟩:=hR.ops id e s l false h0
 constructor
 ·intro i l1 hl
  obtain⟨hl,-⟩:=hgo hl (by simp)
  obtain⟨a,e,h1,h2,h3⟩:=hR.cells i l1 hl
  exact⟨a,e,h1,h2,fun j c hc=>(h3 j c hc).mono M⟩
 ·intro i e1 s1 n1 hl
  obtain⟨hl,-⟩:=hgo hl (by simp)
  exact hR.cN i e1 s1 n1 hl
 ·intro i c hl hc
  obtain⟨hl,-⟩:=hgo hl (by rintro _ _ _ _ rfl; cases hc)
  obtain⟨o,h1,h2⟩:=hR.dg i c hl hc
  exact⟨o,h1,h2.mono M⟩
 ·exact fun i j hi hj he=>hR.inj i j (kT i hi) (kT j hj) he
 ·intro c o h
  rcases h with h | ⟨rfl,h⟩
  ·exact hR.uV c o h
  ·exact⟨arr[o]'(by omega),by show x.w.cell? _=_; simp only[World.cell?,a1]; exact Array.getElem?_eq_getElem _⟩
 ·rintro i ⟨l1,hl⟩ o ho
  obtain⟨hl,hi⟩:=hgo hl (by simp)
  rcases ho with ho | ⟨ho,-⟩
  ·exact hR.sep i ⟨l1,hl⟩ o ho
  ·exact hi (hR.inj i id (aN hl (by simp)) (aN h0 (by simp)) ho)
 ·intro i e1 s1 n1 hl o ho
  obtain⟨hl,hi⟩:=hgo hl (by simp)
  rcases ho with ho | ⟨ho,-⟩
  ·exact hR.lM i e1 s1 n1 hl o ho
  ·exact(hi (hR.inj i id (aN hl (by simp)) (aN h0 (by simp)) ho)).elim
 ·intro i e1 s1 l1 z hl
  rw[aP] at hl
  by_cases h:i=id
  ·subst h
   rw[if_pos rfl] at hl
   cases hl
   exact⟨arr,a1,a2,a3,a4,fun j c hc=>⟨(a5 j c hc).1,(a5 j c hc).2.mono M⟩,fun _ j hj => .inr ⟨rfl,hj⟩,by simp⟩
  ·rw[if_neg h] at hl
   obtain⟨a,h1,h2,h3,h4,h5,h6,h7⟩:=hR.ops i e1 s1 l1 z hl
   refine⟨a,h1,h2,h3,h4,fun j c hc=>⟨(h5 j c hc).1,(h5 j c hc).2.mono M⟩,fun hz j hj => .inl (h6 hz j hj),fun hz o ho => ?_⟩
   rcases ho with ho | ⟨ho,-⟩
   ·exact h7 hz o ho
   ·exact h (hR.inj i id (aN hl (by simp)) (aN h0 (by simp)) ho)
def bE (w:World) (r:Nat) (o:Obj):World:={ w with heap:=w.heap.setIfInBounds r o }
theorem eG (w:World) (r:Nat) (o:Obj) {b:Nat} (h:b≠r):(bE w r o).heap[b]? = w.heap[b]? := by
 simp[bE,Ne.symm h]
theorem uE (w:World) (r:Nat) (o o0:Obj) (h:w.heap[r]? = some o0):(bE w r o).heap[r]? = some o:=by
 have:=bF h
 simp[bE,this]
theorem K9 {b:DB} {o:Obj} (hb:b.isObj=true) (h:oR x b o):∀ arr e fr,o ≠ .cells arr e fr:=by
 rintro arr e fr rfl
 cases b<;>simp_all [DB.isObj,oR]
theorem Rel.NU (hR:Rel x) {id:Nat} {b:DB} (h0:x.S[id]? = some b) (hb:b.isObj=true) (o:Nat):¬ x.Fz (x.μ id) o:=by
 intro hf
 obtain⟨ob,h1,h2⟩:=hR.dg id b h0 hb
 obtain⟨v,hv⟩:=hR.uV _ _ hf
 have:=K9 hb h2
 unfold World.cell? at hv
 simp only[h1] at hv
 cases ob<;>first | (exact this _ _ _ rfl) | simp at hv
def Cx.rJ (x:Cx) (id:Nat) (o:Obj) (b:DB):Cx:=⟨bE x.w (x.μ id) o,x.μ,x.κ,x.Fz,x.S.set id b⟩
theorem vI {id:Nat} {o:Obj} {b0 b:DB} (hR:Rel x) (h0:x.S[id]? = some b0) (hl:b0.like b) (hd:b0 ≠ .defer):bh x (x.rJ id o b):=by
 have DL:=(pE hl).1
 have aP:∀ j,(x.rJ id o b).S[j]? = if j=id then some b else x.S[j]? := fun j=>cI h0 b j
 refine⟨by show _≤(bE _ _ _).heap.size; simp[bE],⟨rfl,rfl⟩,fun c p h=>⟨h,cell_of_block (eG _ _ _ ?_) p⟩,fun c p h => .inl h,fun c hc hn=>eG _ _ _ fun e=>hn id (aN h0 (ez DL)) e.symm,by show _≤(x.S.set _ _).length; simp,fun i l gK=>⟨rfl,l,?_⟩,fun i c gK hc=>⟨rfl,?_,fun Ai => ?_⟩,fun t e s n ht=>⟨n,?_,Nat.le_refl _,fun _=>⟨rfl,rfl⟩⟩,fun i hi => .inl ⟨?_,rfl⟩,fun t e s l z ht=>⟨l,z,?_,Nat.le_refl _,fun e=>⟨rfl,e⟩,fun _=>⟨rfl,rfl⟩⟩⟩
 ·rintro rfl
  exact hR.NU h0 DL p h
 ·rw[aP,if_neg (by rintro rfl; rw[h0] at gK; cases gK; cases DL)]
  exact gK
 ·rw[aP]
  split
  ·rename_i e
   subst e
   rw[h0] at gK
   cases gK
   exact⟨b,rfl,hl⟩
  ·exact⟨c,gK,dF hc⟩
 ·subst Ai
  refine eG _ _ _ fun e => ?_
  have:=hR.inj i id (aN gK (by simp)) (aN h0 (ez DL)) e
  subst this
  rw[h0] at gK
  cases gK
  exact hd rfl
 ·rw[aP,if_neg (by rintro rfl; rw[h0] at ht; cases ht; cases DL)]
  exact ht
 ·obtain⟨c,hc,Aj⟩:=hi
  rw[aP] at hc
  split at hc
  ·rename_i e; subst e; exact aN h0 (ez DL)
  ·exact⟨c,hc,Aj⟩
 ·rw[aP,if_neg (by rintro rfl; rw[h0] at ht; cases ht; cases DL)]
  exact ht
theorem EN {id:Nat} {o:Obj} {b0 b:DB} (hR:Rel x) (h0:x.S[id]? = some b0) (hl:b0.like b) (hd:b0 ≠ .defer) (ho:oR (x.rJ id o b) b o):Rel (x.rJ id o b):=by
 have M:=vI (o:=o) hR h0 hl hd
 have DL:=(pE hl).1
 have hb:=(pE hl).2
 have aP:∀ j,(x.rJ id o b).S[j]? = if j=id then some b else x.S[j]? := fun j=>cI h0 b j
 obtain⟨ob,hob,-⟩:=hR.dg id b0 h0 DL
 have kT:∀ i,Live (x.rJ id o b).S i→Live x.S i:=fun i ⟨c,hc,Aj⟩=>by
  rw[aP] at hc
  split at hc
  ·rename_i e; subst e; exact aN h0 (ez DL)
  ·exact⟨c,hc,Aj⟩
 have Cg:∀ i,i≠id→Live x.S i→(bE x.w (x.μ id) o).heap[x.μ i]? = x.w.heap[x.μ i]? := fun i hi uR=>eG _ _ _ fun e=>hi (hR.inj i id uR (aN h0 (ez DL)) e)
 constructor
 ·intro i l gK
  rw[aP] at gK
  by_cases h:i=id
  ·rw[if_pos h] at gK; cases gK; cases hb
  ·rw[if_neg h] at gK
   obtain⟨a,e,h1,h2,h3⟩:=hR.cells i l gK
   exact⟨a,e,(Cg i h (aN gK (by simp))).trans h1,h2,fun j c hc=>(h3 j c hc).mono M⟩
 ·intro i e s n gK
  rw[aP] at gK
  by_cases h:i=id
  ·rw[if_pos h] at gK; cases gK; cases hb
  ·rw[if_neg h] at gK
   obtain⟨a,h1,h2⟩:=hR.cN i e s n gK
   exact⟨a,(Cg i h (aN gK (by simp))).trans h1,h2⟩
 ·intro i c gK hc
  rw[aP] at gK
  by_cases h:i=id
  ·subst h
   rw[if_pos rfl] at gK
   cases gK
   exact⟨o,uE _ _ _ _ hob,ho⟩
  ·rw[if_neg h] at gK
   obtain⟨o',h1,h2⟩:=hR.dg i c gK hc
   exact⟨o',(Cg i h (aN gK (ez hc))).trans h1,h2.mono M⟩
 ·exact fun i j hi hj he=>hR.inj i j (kT i hi) (kT j hj) he
 ·intro c p h
  obtain⟨v,hv⟩:=hR.uV c p h
  exact⟨v,(M.fz c p h).2.trans hv⟩
 ·rintro i ⟨l,gK⟩ p hp
  rw[aP] at gK
  by_cases h:i=id
  ·rw[if_pos h] at gK; cases gK; cases hb
  ·rw[if_neg h] at gK
   exact hR.sep i ⟨l,gK⟩ p hp
 ·intro i e s n gK p hp
  rw[aP] at gK
  by_cases h:i=id
  ·rw[if_pos h] at gK; cases gK; cases hb
  ·rw[if_neg h] at gK
   exact hR.lM i e s n gK p hp
 ·intro i e s l z gK
  rw[aP] at gK
  by_cases h:i=id
  ·rw[if_pos h] at gK; cases gK; cases hb
  ·rw[if_neg h] at gK
   obtain⟨a,h1,h2,h3,h4,h5,h6⟩:=hR.ops i e s l z gK
   exact⟨a,(Cg i h (aN gK (by simp))).trans h1,h2,h3,h4,fun j c hc=>⟨(h5 j c hc).1,(h5 j c hc).2.mono M⟩,h6⟩
theorem iF {r:Nat} {o o0:Obj} {w:World} (h:w.heap[r]? = some o0) (hn:∀ arr e fr,o0 ≠ .cells arr e fr):(setObj r o).run P w = .ok () (bE w r o):=by
 simp only[setObj,Sem.run,h]
 cases o0<;>first | rfl | exact absurd rfl (hn _ _ _)
theorem gC {r:Nat} {o0:Obj} {w:World} (h:w.heap[r]? = some o0) (hn:∀ arr e fr,o0 ≠ .cells arr e fr):(getObj r).run P w = .ok o0 w:=by
 unfold getObj Sem.run
 rw[h]
 cases o0<;>first | rfl | exact absurd rfl (hn _ _ _)
end Go.Di
end
section
namespace Go.Di
open Go
variable {P:Program} {ty:eY} {x:Cx} {w':World}
theorem lJ {t:TypeId} {i:TypeInfo} (h:A7 P t=some i):P.info? t=some i∧∃ d,P.underlying t=some d:=by
 unfold A7 at h
 split at h
 ·rename_i i' d h1 h2; cases h; exact⟨h1,d,h2⟩
 ·cases h
theorem bg {t:TypeId} {k:TK} {sz:Nat} {z:Option (List DV)} (h:x7 P t=some ⟨k,sz,z⟩):Aw P t=some k∧∃ i,P.info? t=some i∧i.size=sz∧zeroOf i=z:=by
 unfold x7 at h
 split at h
 ·rename_i k' i h1 h2
  cases h
  exact⟨h1,i,h2,rfl,rfl⟩
 ·cases h
theorem gH {i:TypeInfo} {cs:List DV} (h:zeroOf i=some cs):∃ z,i.zero=some z∧nL z.cells.toList=some cs∧cs.length=i.size:=by
 unfold zeroOf at h
 split at h
 ·rename_i z hz
  split at h
  ·rename_i gL hc
   split at h
   ·cases h; exact⟨z,hz,hc,‹_›⟩
   ·cases h
  ·cases h
 ·cases h
theorem iZ {t:TypeId} {e s b:Nat} {agg:Bool} (h:Aw P t=some (.slice e s b agg)):P.underlying t=some (.slice e)∧∃ i,P.info? e=some i∧i.size=s∧i.bytes=b∧lg P e=agg:=by
 unfold Aw at h
 split at h
 ·simp only[Option.map_eq_some_iff] at h; obtain⟨_,_,h⟩:=h; cases h
 ·simp only[Option.map_eq_some_iff] at h; obtain⟨_,_,h⟩:=h; cases h
 ·rename_i e' he
  simp only[Option.map_eq_some_iff] at h
  obtain⟨i,h1,h⟩:=h
  cases h
  exact⟨he,i,(lJ h1).1,rfl,rfl,rfl⟩
 ·cases h
 ·cases h
theorem ue {t:TypeId} {n s:Nat} {agg:Bool} (h:Aw P t=some (.array n s agg)):∃ e,P.underlying t=some (.array n e)∧∃ i,P.info? e=some i∧i.size=s∧lg P e=agg∧∃ d0,P.underlying e=some d0:=by
 unfold Aw at h
 split at h
 ·simp only[Option.map_eq_some_iff] at h; obtain⟨_,_,h⟩:=h; cases h
 ·rename_i m e' he
  simp only[Option.map_eq_some_iff] at h
  obtain⟨i,h1,h⟩:=h
  cases h
  exact⟨e',he,i,(lJ h1).1,rfl,rfl,(lJ h1).2⟩
 ·simp only[Option.map_eq_some_iff] at h; obtain⟨_,_,h⟩:=h; cases h
 ·cases h
 ·cases h
def C8 (P:Program) (f:Field) (r:Nat×Nat×Bool):Prop:=f.offset=r.1∧∃ i,P.info? f.type=some i∧i.size=r.2.1∧lg P f.type=r.2.2∧∃ d0,P.underlying f.type=some d0
theorem wS:∀ {l:List Field} {fs:List (Nat×Nat×Bool)},(l.mapM fun f=>(A7 P f.type).map fun i=>(f.offset,i.size,lg P f.type))=some fs→l.length=fs.length∧∀ (j:Nat) (r:Nat×Nat×Bool),fs[j]? = some r→∃ f,l[j]? = some f∧C8 P f r
 | [],fs,h=>by
  have:fs=[]:=by simpa using h.symm
  subst this; simp
 | f::l,fs,h=>by
  simp only[List.mapM_cons,Option.bind_eq_bind,Option.bind_eq_some_iff,Option.map_eq_some_iff,Option.pure_def,Option.some.injEq] at h
  obtain⟨r,⟨i,h1,rfl⟩,x5,h2,rfl⟩:=h
  obtain⟨h3,h4⟩:=wS h2
  refine⟨by simp[h3],fun j r hr => ?_⟩
  cases j with
  | zero=>simp only[List.getElem?_cons_zero,Option.some.injEq] at hr; subst hr; exact⟨f,rfl,rfl,i,(lJ h1).1,rfl,rfl,(lJ h1).2⟩
  | succ j=>simpa using h4 j r (by simpa using hr)
theorem vw {t:TypeId} {fs:List (Nat×Nat×Bool)} (h:Aw P t=some (.struct fs)):∃ fields:Array Field,P.underlying t=some (.struct fields)∧fields.size=fs.length∧∀ (j:Nat) (r:Nat×Nat×Bool),fs[j]? = some r→∃ f,fields[j]? = some f∧C8 P f r:=by
 unfold Aw at h
 split at h
 ·rename_i fields he
  simp only[Option.map_eq_some_iff] at h
  obtain⟨x5,h1,h⟩:=h
  cases h
  obtain⟨h2,h3⟩:=wS h1
  exact⟨fields,he,by simpa using h2,fun j r hr=>by simpa using h3 j r hr⟩
 ·simp only[Option.map_eq_some_iff] at h; obtain⟨_,_,h⟩:=h; cases h
 ·simp only[Option.map_eq_some_iff] at h; obtain⟨_,_,h⟩:=h; cases h
 ·cases h
 ·cases h
theorem Gw {t:TypeId} {k:TK} (h:Aw P t=some k):k.isAgg=lg P t∧∃ d,P.underlying t=some d:=by
 unfold Aw at h
 unfold lg
 split at h
 ·rename_i fields he
  simp only[Option.map_eq_some_iff] at h; obtain⟨_,_,rfl⟩:=h; rw[he]; exact⟨rfl,_,rfl⟩
 ·rename_i n e he
  simp only[Option.map_eq_some_iff] at h; obtain⟨_,_,rfl⟩:=h; rw[he]; exact⟨rfl,_,rfl⟩
 ·rename_i e he
  simp only[Option.map_eq_some_iff] at h; obtain⟨_,_,rfl⟩:=h; rw[he]; exact⟨rfl,_,rfl⟩
 ·rename_i d h1 h2 h3 he
  cases h
  rw[he]
  refine⟨?_,_,rfl⟩
  cases d with
  | struct fs=>exact(h1 fs rfl).elim
  | array n e=>exact(h2 n e rfl).elim
  | _=>rfl
 ·cases h
theorem qq {t:TypeId} {d:TypeDesc} (h:P.underlying t=some d) (w:World):(isAgg t).run P w = .ok (lg P t) w:=by
 unfold isAgg lg
 simp only[Sem.run_bind,run_underlying h,Result.andThen_ok,h]
 cases d<;>rfl
theorem run_sizeOf {t:TypeId} {i:TypeInfo} (h:P.info? t=some i) (w:World):(sizeOf t).run P w = .ok i.size w:=by
 simp[sizeOf,typeInfo,h]
theorem I3 {l:List DV} {v:Value} (h:RV x (.agg l) v):∃ vs,v = .agg vs∧en x l vs:=by cases h with | agg h hl=>exact⟨_,rfl,h,hl⟩
theorem uq {s:Nat}:∀ {rows:List DV},(∀ r∈rows,r.cells.length=s)→∀ {i:Nat} {r:DV},rows[i]? = some r→∀ {j:Nat},j<s→(flat rows)[i*s+j]? = r.cells[j]?
 | [],_,i,r,h,_,_=>by simp at h
 | r0::rows,hs,i,r,h,j,hj=>by
  have h0:r0.cells.length=s:=hs r0 (by simp)
  simp only[flat,List.flatMap_cons]
  cases i with
  | zero =>
   simp only[List.getElem?_cons_zero,Option.some.injEq] at h
   subst h
   rw[List.getElem?_append_left (by omega)]
   simp
  | succ i =>
   have he:(i+1)*s+j=s+(i*s+j):=by rw[Nat.succ_mul]; omega
   rw[he,List.getElem?_append_right (by omega),h0,Nat.add_sub_cancel_left]
   exact uq (rows:=rows) (fun r hr=>hs r (by simp[hr])) (by simpa using h) hj
theorem eB {s:Nat}:∀ {rows:List DV},(∀ r∈rows,r.cells.length=s)→(flat rows).length=rows.length*s
 | [],_=>by simp[flat]
 | r::rows,h=>by
  have:=eB (rows:=rows) fun r hr=>h r (by simp[hr])
  have h0:=h r (by simp)
  simp only[flat] at this
  simp only[flat,List.flatMap_cons,List.length_append,this,h0,List.length_cons,Nat.succ_mul]
  omega
theorem fM (b o n:Nat):(⟨b,o,none⟩:Addr).add n=⟨b,o+n,none⟩:=by unfold Addr.add; split<;>simp_all
theorem BS {l cs:List DV} {off n:Nat} (h:MG l off n=some cs):cs.length=n∧off+n≤l.length∧∀ j,j<n→cs[j]? = l[off+j]? := by
 unfold MG at h
 split at h
 ·cases h
  refine⟨by simp; omega,‹_›,fun j hj => ?_⟩
  rw[List.getElem?_take,if_pos hj,List.getElem?_drop]
 ·cases h
theorem vK {t:TypeId} {i:TypeInfo} {d0:TypeDesc} {b o off size:Nat} {agg:Bool} {l:List DV} {d:DV} (hi:P.info? t=some i) (hu:P.underlying t=some d0) (hs:i.size=size) (ha:lg P t=agg)
  (hc:∀ j c,l[j]? = some c→∃ v,x.w.cell? ⟨b,o+j,none⟩=some v∧RV x c v) (h:kg agg size l off=some d):∃ v,(loadVar t ⟨b,o+off,none⟩).run P x.w = .ok v x.w∧RV x d v:=by
 unfold kg at h
 subst ha
 cases B5:lg P t with
 | true =>
  rw[B5,if_pos rfl,Option.map_eq_some_iff] at h
  obtain⟨cs,h1,rfl⟩:=h
  obtain⟨h2,h3,h4⟩:=BS h1
  have hf:∀ j,j<size→∃ v,x.w.cell? ⟨b,o+off+j,none⟩=some v∧∀ c,cs[j]? = some c→RV x c v:=by
   intro j hj
   have hlt:off+j<l.length:=by omega
   obtain⟨v,k1,k2⟩:=hc (off+j) l[off+j] (List.getElem?_eq_getElem hlt)
   refine⟨v,by rw[Nat.add_assoc]; exact k1,fun c lR => ?_⟩
   rw[h4 j hj,List.getElem?_eq_getElem hlt] at lR
   cases lR
   exact k2
  let f:Nat→Value:=fun j=>if hj:j<size then (hf j hj).choose else undef
  have Mg:∀ j,j<size→x.w.cell? ⟨b,o+off+j,none⟩=some (f j):=fun j hj=>by
   simp only[f,dif_pos hj]; exact(hf j hj).choose_spec.1
  have TE:∀ j,j<size→∀ c,cs[j]? = some c→RV x c (f j):=fun j hj=>by
   simp only[f,dif_pos hj]; exact(hf j hj).choose_spec.2
  refine⟨.agg ((List.range size).map f).toArray,?_,.agg (by simp[h2]) fun j c lR => ?_⟩
  ·unfold loadVar
   simp only[Sem.run_bind,qq hu,B5,Result.andThen_ok,if_true,run_sizeOf hi,hs]
   rw[run_loadCells (P:=P) x.w ⟨b,o+off,none⟩ size f fun j hj=>by rw[fM]; exact Mg j hj]
   rfl
  ·have hj:j<size:=by have:=(List.getElem?_eq_some_iff.1 lR).1; omega
   have:=TE j hj c lR
   simpa [Array.getD_eq_getD_getElem?,hj] using this
 | false =>
  rw[B5] at h
  simp only[Bool.false_eq_true,if_false] at h
  obtain⟨v,k1,k2⟩:=hc off d h
  refine⟨v,?_,k2⟩
  unfold loadVar
  simp only[Sem.run_bind,qq hu,B5,Result.andThen_ok,Bool.false_eq_true,if_false,run_load,k1]
theorem Jd {t:TypeId} {i:TypeInfo} {d0:TypeDesc} {off size:Nat} {agg:Bool} {l:List DV} {arr:Array Value} {d:DV} (hi:P.info? t=some i) (hu:P.underlying t=some d0) (hs:i.size=size) (ha:lg P t=agg)
  (hc:en x l arr) (h:kg agg size l off=some d) (w:World):∃ v,(part t arr off).run P w = .ok v w∧RV x d v:=by
 unfold kg at h
 subst ha
 cases B5:lg P t with
 | true =>
  rw[B5,if_pos rfl,Option.map_eq_some_iff] at h
  obtain⟨cs,h1,rfl⟩:=h
  obtain⟨h2,h3,h4⟩:=BS h1
  refine⟨.agg (arr.extract off (off+size)),?_,.agg (by simp[h2,hc.1]; omega) fun j c lR => ?_⟩
  ·unfold part
   simp only[Sem.run_bind,qq hu,B5,Result.andThen_ok,if_true,run_sizeOf hi,hs]
   rfl
  ·have hj:j<size:=by have:=(List.getElem?_eq_some_iff.1 lR).1; omega
   rw[h4 j hj] at lR
   have:=hc.2 _ _ lR
   have hlt:off+j<arr.size:=by rw[hc.1]; omega
   simp only[Array.getD_eq_getD_getElem?,Array.getElem?_extract] at this ⊢
   rw[if_pos (by omega)]
   exact this
 | false =>
  rw[B5] at h
  simp only[Bool.false_eq_true,if_false] at h
  have hlt:off<arr.size:=by rw[hc.1]; exact(List.getElem?_eq_some_iff.1 h).1
  refine⟨arr[off],?_,by simpa [Array.getD_eq_getD_getElem?,hlt] using hc.2 _ _ h⟩
  unfold part
  simp only[Sem.run_bind,qq hu,B5,Result.andThen_ok,Bool.false_eq_true,if_false,Array.getElem?_eq_getElem hlt,Sem.run_pure]
theorem one_cell {d:DV} {v:Value} (h:RV x d v) (h1:d.one=true):v.oneCell'=true∧d.cells=[d]∧v.cells=#[v]:=by
 cases h with
 | @val v h =>
  cases v with
  | tuple vs=>simp[DV.one] at h1
  | agg vs=>simp[u9] at h
  | _=>exact⟨rfl,rfl,rfl⟩
 | agg h hl=>simp[DV.one] at h1
 | ep h hl=>simp[DV.one] at h1
 | sl hv hr h1 h2 h3 hsp h4=>exact⟨rfl,rfl,rfl⟩
 | ptr h=>exact⟨rfl,rfl,rfl⟩
 | cV hv hr=>exact⟨rfl,rfl,rfl⟩
 | fn h1 h2 h3 h4=>exact⟨rfl,rfl,rfl⟩
 | map h=>exact⟨rfl,rfl,rfl⟩
 | uN h=>exact⟨rfl,rfl,rfl⟩
 | gI h h1 h2=>exact⟨rfl,rfl,rfl⟩
 | dM h h1 h2=>exact⟨rfl,rfl,rfl⟩
theorem o6 {d:DV} {v:Value} (h:RV x d v):en x d.cells v.cells:=by
 have key:d.cells=[d]→v.cells=#[v]→en x d.cells v.cells:=fun h1 h2=>by
  rw[h1,h2]
  refine⟨rfl,fun j c hc => ?_⟩
  cases j with
  | zero=>simp only[List.getElem?_cons_zero,Option.some.injEq] at hc; subst hc; exact h
  | succ j=>simp at hc
 cases h with
 | agg h hl=>exact⟨h,hl⟩
 | @val v h =>
  cases v with
  | agg vs=>simp[u9] at h
  | _=>exact key rfl rfl
 | _=>exact key rfl rfl
theorem cells_one {d:DV} {v:Value} (h:RV x d v) (h1:d.cells.all DV.one=true):∀ u∈v.cells.toList,u.oneCell'=true:=by
 intro u hu
 have hc:=o6 h
 obtain⟨j,hj,rfl⟩:=List.mem_iff_getElem.1 hu
 have uS:j<d.cells.length:=by rw[← hc.1]; simpa using hj
 have h2:=hc.2 j d.cells[j] (List.getElem?_eq_getElem uS)
 have h3:d.cells[j].one=true:=List.all_eq_true.1 h1 _ (List.getElem_mem uS)
 have h4:=(one_cell h2 h3).1
 have hj2:j<v.cells.size:=by simpa using hj
 simpa [Array.getD_eq_getD_getElem?,hj2] using h4
theorem ng {l cs l':List DV} {off:Nat} (h:qK l off cs=some l'):off+cs.length≤l.length∧l'=l.take off++cs++l.drop (off+cs.length):=by
 unfold qK at h
 split at h
 ·cases h; exact⟨‹_›,rfl⟩
 ·cases h
theorem CX {l cs:List DV} {arr vs:Array Value} {off:Nat} (hle:l.length≤arr.size) (ha:∀ j c,l[j]? = some c→RV x c (arr.getD j undef)) (hv:en x cs vs) (h1:off≤l.length) (h2:off+cs.length≤arr.size) :
  ∀ j c,(l.take off++cs++l.drop (off+cs.length))[j]? = some c→RV x c ((arr.toList.take off++vs.toList++arr.toList.drop (off+vs.size)).toArray.getD j undef):=by
 intro j c hc
 have e2:=hv.1
 simp only[Array.getD_eq_getD_getElem?,List.getElem?_toArray]
 by_cases c1:j<off
 ·rw[List.append_assoc,List.getElem?_append_left (by simp; omega),List.getElem?_take,if_pos c1] at hc ⊢
  have:=ha j c hc
  simpa [Array.getD_eq_getD_getElem?] using this
 ·by_cases c2:j<off+cs.length
  ·rw[List.getElem?_append_left (by simp; omega),List.getElem?_append_right (by simp; omega)] at hc ⊢
   have e3:(l.take off).length=off:=by simp; omega
   have e4:(arr.toList.take off).length=off:=by simp; omega
   rw[e3] at hc
   rw[e4]
   have:=hv.2 _ _ hc
   simpa [Array.getD_eq_getD_getElem?] using this
  ·have e3:(l.take off++cs).length=off+cs.length:=by simp; omega
   have e4:(arr.toList.take off++vs.toList).length=off+cs.length:=by simp; omega
   rw[List.getElem?_append_right (by omega),e3,List.getElem?_drop] at hc
   rw[List.getElem?_append_right (by omega),e4,List.getElem?_drop]
   have e5:off+vs.size+(j-(off+cs.length))=off+cs.length+(j-(off+cs.length)):=by omega
   rw[e5]
   have:=ha _ c hc
   simpa [Array.getD_eq_getD_getElem?] using this
theorem I2 {l cs l':List DV} {arr vs:Array Value} {off:Nat} (hl:en x l arr) (hv:en x cs vs) (h:qK l off cs=some l'):en x l' (arr.toList.take off++vs.toList++arr.toList.drop (off+vs.size)).toArray:=by
 obtain⟨h1,rfl⟩:=ng h
 have e1:=hl.1
 have e2:=hv.1
 exact⟨by simp; omega,CX (by omega) hl.2 hv (by omega) (by omega)⟩
theorem jb {S:ak} {id n e s:Nat} {l:List DV} {z:Bool} (h:Aq S id n=some (e,s,l,z)):S[id]? = some (.op e s l z)∧n*s=l.length:=by
 unfold Aq at h
 split at h
 ·rename_i e' s' l' z' hS
  split at h
  ·cases h; exact⟨hS,‹_›⟩
  ·cases h
 ·cases h
theorem KV {c:DV} (h:c.bn=true):c.one=true:=by cases c<;>simp_all [DV.bn,DV.one]
end Go.Di
end
