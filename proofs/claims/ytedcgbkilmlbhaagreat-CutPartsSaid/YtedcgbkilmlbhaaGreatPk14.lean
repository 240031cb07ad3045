import Derived.Test.YtedcgbkilmlbhaaGreatPk13
section
namespace Go.Di
open Go
variable {P:Program} {ty:fI} {x:Cx} {w':World}
def Cx.froze (x:Cx) (w':World) (F:Nat→Prop):Cx:=⟨w',x.μ,x.κ,fun c o=>x.Fz c o∨(c=x.w.heap.size∧F o),x.S⟩
theorem pR {F:Nat→Prop} {ob:Obj} (hR:Rel x) (hp:mH x.w w' ob):bE x (x.froze w' F) where
 size:=by show _≤w'.heap.size; rw[hp.heap]; simp
 env:=hp.env
 fz:=fun c o h=>⟨.inl h,cell_of_block (hp.lt (hR.s4 h)) o⟩
 Ho:=fun c o h=>by
  rcases h with h | h
  ·exact .inl h
  ·exact .inr (.inl (by omega))
 old:=fun c hc _=>hp.lt hc
 len:=ai _
 cells:=fun id l hl=>⟨rfl,l,hl⟩
 dD:=fun id c hl hc=>⟨rfl,⟨c,hl,eu hc⟩,fun _=>by
  obtain⟨o,h1,-⟩:=hR.dD id c hl hc
  exact hp.lt (bT h1)⟩
 dz:=fun t e s n ht=>⟨n,ht,ai _,fun _=>⟨rfl,rfl⟩⟩
 live:=fun i hi => .inl ⟨hi,rfl⟩
 ops:=fun _ _ _ l z h=>⟨l,z,h,ai _,fun e=>⟨rfl,e⟩,fun _=>⟨rfl,rfl⟩⟩
theorem LO {F:Nat→Prop} {ob:Obj} (hR:Rel x) (hp:mH x.w w' ob) (hF:∀ o,F o→∃ v,w'.cell? ⟨x.w.heap.size,o,none⟩=some v):Rel (x.froze w' F) where
 cells:=fun id l hl=>by
  obtain⟨arr,e,h1,h2,h3⟩:=hR.cells id l hl
  exact⟨arr,e,(hp.lt (bT h1)).trans h1,h2,fun j c hc=>(h3 j c hc).mono (pR hR hp)⟩
 dz:=fun id e s n hl=>by
  obtain⟨arr,h1,h2⟩:=hR.dz id e s n hl
  exact⟨arr,(hp.lt (bT h1)).trans h1,h2⟩
 dD:=fun id c hl hc=>by
  obtain⟨o,h1,h2⟩:=hR.dD id c hl hc
  exact⟨o,(hp.lt (bT h1)).trans h1,h2.mono (pR hR hp)⟩
 inj:=hR.inj
 xH:=fun c o h=>by
  rcases h with h | ⟨rfl,h⟩
  ·obtain⟨v,hv⟩:=hR.xH c o h
   exact⟨v,(cell_of_block (hp.lt (hR.s4 h)) o).trans hv⟩
  ·exact hF o h
 sep:=fun id ⟨l,hl⟩ o ho=>by
  rcases ho with ho | ⟨ho,-⟩
  ·exact hR.sep id ⟨l,hl⟩ o ho
  ·have:x.μ id<x.w.heap.size:=hR.gr (aS hl (by simp))
   have ho:x.μ id=x.w.heap.size:=ho
   omega
 ng:=fun id e s n hl o ho=>by
  rcases ho with ho | ⟨ho,-⟩
  ·exact hR.ng id e s n hl o ho
  ·have:x.μ id<x.w.heap.size:=hR.gr (aS hl (by simp))
   have ho:x.μ id=x.w.heap.size:=ho
   omega
 ops:=fun id e s l z hl=>by
  obtain⟨arr,h1,h2,h3,h4,h5,h6,h7⟩:=hR.ops id e s l z hl
  refine⟨arr,(hp.lt (bT h1)).trans h1,h2,h3,h4,fun j c hc=>⟨(h5 j c hc).1,(h5 j c hc).2.mono (pR hR hp)⟩,fun hz j hj => .inl (h6 hz j hj),fun hz o ho => ?_⟩
  rcases ho with ho | ⟨ho,-⟩
  ·exact h7 hz o ho
  ·have:x.μ id<x.w.heap.size:=hR.gr (aS hl (by simp))
   have ho:x.μ id=x.w.heap.size:=ho
   omega
def Cx.upd (x:Cx) (id:Nat) (arr:Array Value) (F:Nat→Prop) (b:DB):Cx:=⟨x.w.setRow (x.μ id) arr,x.μ,x.κ,fun c o=>x.Fz c o∨(c=x.μ id∧F o),x.S.set id b⟩
theorem fK {S:ak} {id:Nat} {b0:DB} (h:S[id]? = some b0) (b:DB) (j:Nat):(S.set id b)[j]? = if j=id then some b else S[j]? := by
 have hlt:=(aJ.1 h).1
 rw[aK]
 by_cases h1:j=id
 ·subst h1; simp[hlt]
 ·rw[if_neg (Ne.symm h1),if_neg h1]
theorem qX {id:Nat} {arr:Array Value} {F:Nat→Prop} {b0 b:DB} (hR:Rel x) (h0:x.S[id]? = some b0)
  (hb:(∃ l l',b0 = .cells l∧b = .cells l')∨(∃ e s n n',b0 = .tail e s n∧b = .tail e s n'∧n≤n'∧∀ o,o<n→(x.w.setRow (x.μ id) arr).cell? ⟨x.μ id,o,none⟩=x.w.cell? ⟨x.μ id,o,none⟩)∨(∃ e s l l',b0 = .op e s l false∧b = .op e s l' false∧l.length≤l'.length)):bE x (x.upd id arr F b):=by
 have BP:b0 ≠ .none:=by rcases hb with ⟨l,l',rfl,-⟩ | ⟨e,s,n,n',rfl,-⟩ | ⟨e,s,l,l',rfl,-⟩<;>simp
 have hne:b ≠ .none:=by rcases hb with ⟨l,l',-,rfl⟩ | ⟨e,s,n,n',-,rfl,-⟩ | ⟨e,s,l,l',-,rfl,-⟩<;>simp
 have bh:∀ j,(x.upd id arr F b).S[j]? = if j=id then some b else x.S[j]? := fun j=>fK h0 b j
 refine⟨by show _≤(x.w.setRow _ _).heap.size; rw[setRow_size]; exact ai _,⟨rfl,rfl⟩,fun c o h=>⟨.inl h,?_⟩,fun c o h => ?_,fun c hc hn => ?_,by show _≤(x.S.set _ _).length; simp,fun i l hl=>⟨rfl,?_⟩,fun i c hl hc=>⟨rfl,?_,?_⟩,fun t e s n ht => ?_,fun i hi => .inl ⟨?_,rfl⟩,fun t e s l z ht => ?_⟩
 ·show (x.w.setRow _ _).cell? _=_
  by_cases hc:c=x.μ id
  ·subst hc
   rcases hb with ⟨l,l',rfl,-⟩ | ⟨e,s,n,n',rfl,-,-,hk⟩ | ⟨e,s,l,l',rfl,-⟩
   ·exact absurd h (hR.sep id ⟨l,h0⟩ o)
   ·exact hk o (hR.ng id e s n h0 o h)
   ·obtain⟨-,-,-,-,-,-,-,k⟩:=hR.ops id e s l false h0
    exact absurd h (k rfl o)
  ·exact cell_setRow_other _ _ _ _ hc
 ·rcases h with h | ⟨rfl,-⟩
  ·exact .inl h
  ·exact .inr (.inr ⟨id,aS h0 BP,rfl⟩)
 ·exact setRow_other _ _ _ _ fun e=>hn id (aS h0 BP) e.symm
 ·rw[bh]
  split
  ·rename_i e
   subst e
   rw[h0] at hl
   cases hl
   rcases hb with ⟨l,l',-,rfl⟩ | ⟨e,s,n,n',h1,-⟩ | ⟨e,s,l,l',h1,-⟩
   ·exact⟨l',rfl⟩
   ·cases h1
   ·cases h1
  ·exact⟨l,hl⟩
 ·rw[bh]
  split
  ·rename_i e
   subst e
   rw[h0] at hl
   cases hl
   rcases hb with ⟨l,l',h1,-⟩ | ⟨e,s,n,n',h1,-⟩ | ⟨e,s,l,l',h1,-⟩<;>(subst h1; cases hc)
  ·exact⟨c,hl,eu hc⟩
 ·rintro rfl
  refine setRow_other _ _ _ _ fun e => ?_
  have:=hR.inj i id (aS hl (by simp)) (aS h0 BP) e
  subst this
  rw[h0] at hl
  cases hl
  rcases hb with ⟨l,l',h1,-⟩ | ⟨e,s,n,n',h1,-⟩ | ⟨e,s,l,l',h1,-⟩<;>cases h1
 ·by_cases e1:t=id
  ·subst e1
   rw[h0] at ht
   cases ht
   rcases hb with ⟨l,l',h1,-⟩ | ⟨e,s,n,n',h1,rfl,h3,-⟩ | ⟨e,s,l,l',h1,-⟩
   ·cases h1
   ·cases h1
    exact⟨n',by rw[bh,if_pos rfl],h3,fun _=>⟨rfl,rfl⟩⟩
   ·cases h1
  ·exact⟨n,by rw[bh,if_neg e1]; exact ht,ai _,fun _=>⟨rfl,rfl⟩⟩
 ·obtain⟨c,hc,BB⟩:=hi
  rw[bh] at hc
  split at hc
  ·rename_i e; subst e; exact aS h0 BP
  ·exact⟨c,hc,BB⟩
 ·by_cases e1:t=id
  ·subst e1
   rw[h0] at ht
   cases ht
   rcases hb with ⟨l,l',h1,-⟩ | ⟨e,s,n,n',h1,-⟩ | ⟨e,s,l,l',h1,rfl,h3⟩
   ·cases h1
   ·cases h1
   ·cases h1
    exact⟨l',false,by rw[bh,if_pos rfl],h3,by simp,fun _=>⟨rfl,rfl⟩⟩
  ·exact⟨l,z,by rw[bh,if_neg e1]; exact ht,ai _,fun e=>⟨rfl,e⟩,fun _=>⟨rfl,rfl⟩⟩
theorem ze {id:Nat} {arr:Array Value} {F:Nat→Prop} {b0 b:DB} (hR:Rel x) (h0:x.S[id]? = some b0)
  (hb:(∃ l l',b0 = .cells l∧b = .cells l'∧(∀ o,¬ F o)∧arr.size=l'.length∧∀ j c,l'[j]? = some c→RV x c (arr.getD j undef)) ∨
   (∃ e s n n',b0 = .tail e s n∧b = .tail e s n'∧n≤n'∧(∀ o,o<n→(x.w.setRow (x.μ id) arr).cell? ⟨x.μ id,o,none⟩=x.w.cell? ⟨x.μ id,o,none⟩)∧arr.size=x.κ id*s∧n'≤arr.size∧∀ o,F o→o<n') ∨
   (∃ e s l l',b0 = .op e s l false∧b = .op e s l' false∧l.length≤l'.length∧(∀ o,¬ F o)∧arr.size=x.κ id*s∧l'.length≤arr.size∧∀ j c,l'[j]? = some c→c.bF=true∧RV x c (arr.getD j undef))):Rel (x.upd id arr F b):=by
 have mo:(∃ l l',b0 = .cells l∧b = .cells l')∨(∃ e s n n',b0 = .tail e s n∧b = .tail e s n'∧n≤n'∧∀ o,o<n→(x.w.setRow (x.μ id) arr).cell? ⟨x.μ id,o,none⟩=x.w.cell? ⟨x.μ id,o,none⟩)∨(∃ e s l l',b0 = .op e s l false∧b = .op e s l' false∧l.length≤l'.length):=by
  rcases hb with ⟨l,l',h1,h2,-⟩ | ⟨e,s,n,n',h1,h2,h3,h4,-⟩ | ⟨e,s,l,l',h1,h2,h3,-⟩
  ·exact .inl ⟨l,l',h1,h2⟩
  ·exact .inr (.inl ⟨e,s,n,n',h1,h2,h3,h4⟩)
  ·exact .inr (.inr ⟨e,s,l,l',h1,h2,h3⟩)
 have M:=qX (F:=F) hR h0 mo
 have BP:b0 ≠ .none:=by rcases hb with ⟨l,l',rfl,-⟩ | ⟨e,s,n,n',rfl,-⟩ | ⟨e,s,l,l',rfl,-⟩<;>simp
 have bh:∀ j,(x.upd id arr F b).S[j]? = if j=id then some b else x.S[j]? := fun j=>fK h0 b j
 have hold:∃ old e,x.w.heap[x.μ id]? = some (.cells old e (0,0))∧(∀ e' s n,b0 = .tail e' s n→e=e'∧x.κ id≤maxLen)∧∀ e' s l z,b0 = .op e' s l z→e=e'∧x.κ id≤maxLen:=by
  rcases hb with ⟨l,l',rfl,-⟩ | ⟨e,s,n,n',rfl,-⟩ | ⟨e,s,l,l',rfl,-⟩
  ·obtain⟨a,e,h1,-⟩:=hR.cells id l h0
   exact⟨a,e,h1,by simp,by simp⟩
  ·obtain⟨a,h1,-,-,h4⟩:=hR.dz id e s n h0
   exact⟨a,e,h1,fun e' s' n' h=>by cases h; exact⟨rfl,h4⟩,by simp⟩
  ·obtain⟨a,h1,-,-,h4,-⟩:=hR.ops id e s l false h0
   exact⟨a,e,h1,by simp,fun e' s' l' z h=>by cases h; exact⟨rfl,h4⟩⟩
 obtain⟨old,e0,hh,he0,ZK⟩:=hold
 have uG:(x.w.setRow (x.μ id) arr).heap[x.μ id]? = some (.cells arr e0 (0,0)):=setRow_heap _ _ _ _ _ _ hh
 have mF:∀ i,Live (x.upd id arr F b).S i→Live x.S i:=fun i hi=>by
  rcases M.live i hi with ⟨h,-⟩ | h
  ·exact h
  ·obtain⟨c,hc,BB⟩:=hi
   rw[bh] at hc
   split at hc
   ·rename_i e; subst e; exact aS h0 BP
   ·exact⟨c,hc,BB⟩
 have Du:∀ i,i≠id→Live x.S i→(x.w.setRow (x.μ id) arr).heap[x.μ i]? = x.w.heap[x.μ i]? := fun i hi hl=>setRow_other _ _ _ _ fun e=>hi (hR.inj i id hl (aS h0 BP) e)
 constructor
 ·intro i l hl
  rw[bh] at hl
  by_cases h:i=id
  ·subst h
   rw[if_pos rfl] at hl
   cases hl
   rcases hb with ⟨l0,l',h1,h2,h3,h4,h5⟩ | ⟨e,s,n,n',h1,h2,-⟩ | ⟨e,s,l,l',h1,h2,-⟩
   ·cases h2
    exact⟨arr,e0,uG,h4,fun j c hc=>(h5 j c hc).mono M⟩
   ·cases h2
   ·cases h2
  ·rw[if_neg h] at hl
   obtain⟨a,e,h1,h2,h3⟩:=hR.cells i l hl
   exact⟨a,e,(Du i h (aS hl (by simp))).trans h1,h2,fun j c hc=>(h3 j c hc).mono M⟩
 ·intro i e s n hl
  rw[bh] at hl
  by_cases h:i=id
  ·subst h
   rw[if_pos rfl] at hl
   cases hl
   rcases hb with ⟨l0,l',h1,h2,-⟩ | ⟨e',s',m,m',h1,h2,h3,h4,h5,h6,h7⟩ | ⟨e,s,l,l',h1,h2,-⟩
   ·cases h2
   ·cases h2
    obtain⟨k1,k2⟩:=he0 _ _ _ h1
    subst k1
    exact⟨arr,uG,h5,h6,k2⟩
   ·cases h2
  ·rw[if_neg h] at hl
   obtain⟨a,h1,h2⟩:=hR.dz i e s n hl
   exact⟨a,(Du i h (aS hl (by simp))).trans h1,h2⟩
 ·intro i c hl hc
  rw[bh] at hl
  by_cases h:i=id
  ·subst h
   rw[if_pos rfl] at hl
   cases hl
   rcases hb with ⟨l0,l',h1,h2,-⟩ | ⟨e',s',m,m',h1,h2,-⟩ | ⟨e,s,l,l',h1,h2,-⟩<;>(subst h2; cases hc)
  ·rw[if_neg h] at hl
   obtain⟨o,h1,h2⟩:=hR.dD i c hl hc
   exact⟨o,(Du i h (aS hl (fq hc))).trans h1,h2.mono M⟩
 ·exact fun i j hi hj he=>hR.inj i j (mF i hi) (mF j hj) he
 ·intro c o h
  rcases h with h | ⟨rfl,h⟩
  ·obtain⟨v,hv⟩:=hR.xH c o h
   exact⟨v,(M.fz c o h).2.trans hv⟩
  ·rcases hb with ⟨l0,l',-,-,h3,-⟩ | ⟨e',s',m,m',-,-,-,-,h5,h6,h7⟩ | ⟨e,s,l,l',-,-,-,h3,-⟩
   ·exact absurd h (h3 o)
   ·have:=h7 o h
    refine⟨arr[o]'(by omega),?_⟩
    show (x.w.setRow _ _).cell? _=_
    rw[cell_setRow_same _ _ _ _ _ _ _ hh]
    exact bL _
   ·exact absurd h (h3 o)
 ·rintro i ⟨l,hl⟩ o ho
  rw[bh] at hl
  by_cases h:i=id
  ·subst h
   rw[if_pos rfl] at hl
   cases hl
   rcases hb with ⟨l0,l',h1,h2,h3,-⟩ | ⟨e',s',m,m',h1,h2,-⟩ | ⟨e,s,l,l',h1,h2,-⟩
   ·subst h1
    rcases ho with ho | ⟨-,ho⟩
    ·exact hR.sep i ⟨l0,h0⟩ o ho
    ·exact h3 o ho
   ·cases h2
   ·cases h2
  ·rw[if_neg h] at hl
   rcases ho with ho | ⟨ho,-⟩
   ·exact hR.sep i ⟨l,hl⟩ o ho
   ·exact h (hR.inj i id (aS hl (by simp)) (aS h0 BP) ho)
 ·intro i e s n hl o ho
  rw[bh] at hl
  by_cases h:i=id
  ·subst h
   rw[if_pos rfl] at hl
   cases hl
   rcases hb with ⟨l0,l',h1,h2,-⟩ | ⟨e',s',m,m',h1,h2,h3,-,-,-,h7⟩ | ⟨e,s,l,l',h1,h2,-⟩
   ·cases h2
   ·cases h2
    subst h1
    rcases ho with ho | ⟨-,ho⟩
    ·exact cz (hR.ng i _ _ _ h0 o ho) h3
    ·exact h7 o ho
   ·cases h2
  ·rw[if_neg h] at hl
   rcases ho with ho | ⟨ho,-⟩
   ·exact hR.ng i e s n hl o ho
   ·exact(h (hR.inj i id (aS hl (by simp)) (aS h0 BP) ho)).elim
 ·intro i e s l z hl
  rw[bh] at hl
  by_cases h:i=id
  ·subst h
   rw[if_pos rfl] at hl
   cases hl
   rcases hb with ⟨l0,l',h1,h2,-⟩ | ⟨e',s',m,m',h1,h2,-⟩ | ⟨e',s',l0,l',h1,h2,h3,h4,h5,h6,h7⟩
   ·cases h2
   ·cases h2
   ·cases h2
    obtain⟨k1,k2⟩:=ZK _ _ _ _ h1
    subst k1
    refine⟨arr,uG,h5,h6,k2,fun j c hc=>⟨(h7 j c hc).1,(h7 j c hc).2.mono M⟩,by simp,fun _ o ho => ?_⟩
    rcases ho with ho | ⟨-,ho⟩
    ·subst h1
     obtain⟨-,-,-,-,-,-,-,k⟩:=hR.ops i _ _ _ _ h0
     exact k rfl o ho
    ·exact h4 o ho
  ·rw[if_neg h] at hl
   obtain⟨a,h1,h2,h3,h4,h5,h6,h7⟩:=hR.ops i e s l z hl
   refine⟨a,(Du i h (aS hl (by simp))).trans h1,h2,h3,h4,fun j c hc=>⟨(h5 j c hc).1,(h5 j c hc).2.mono M⟩,fun hz j hj => .inl (h6 hz j hj),fun hz o ho => ?_⟩
   rcases ho with ho | ⟨ho,-⟩
   ·exact h7 hz o ho
   ·exact h (hR.inj i id (aS hl (by simp)) (aS h0 BP) ho)
def Cx.iX (x:Cx) (w':World) (t k:Nat) (F:Nat→Prop) (b:DB):Cx :=
 ⟨w',fun i=>if i=t then x.w.heap.size else x.μ i,fun i=>if i=t then k else x.κ i,fun c o=>x.Fz c o∨(c=x.w.heap.size∧F o),x.S.set t b⟩
theorem Be {t k:Nat} {F:Nat→Prop} {ob:Obj} {e:TypeId} {s n n':Nat} (hR:Rel x) (h0:x.S[t]? = some (.tail e s n)) (hp:mH x.w w' ob) (hlt:n<n'):bE x (x.iX w' t k F (.tail e s n')):=by
 have bh:∀ j,(x.iX w' t k F (.tail e s n')).S[j]? = if j=t then some (.tail e s n') else x.S[j]? := fun j=>fK h0 _ j
 refine⟨by show _≤w'.heap.size; rw[hp.heap]; simp,hp.env,fun c o h=>⟨.inl h,cell_of_block (hp.lt (hR.s4 h)) o⟩,fun c o h => ?_,fun c hc _=>hp.lt hc,by show _≤(x.S.set _ _).length; simp,fun i l hl => ?_,fun i c hl hc => ?_,fun i e1 s1 n1 hl => ?_,fun i hi => ?_,fun i e1 s1 l z hl => ?_⟩
 ·rcases h with h | h
  ·exact .inl h
  ·exact .inr (.inl (by omega))
 ·have hne:i≠t:=by rintro rfl; rw[h0] at hl; cases hl
  exact⟨if_neg hne,l,by rw[bh,if_neg hne]; exact hl⟩
 ·have hne:i≠t:=by rintro rfl; rw[h0] at hl; cases hl; cases hc
  exact⟨if_neg hne,⟨c,by rw[bh,if_neg hne]; exact hl,eu hc⟩,fun _=>by
   obtain⟨o,h1,-⟩:=hR.dD i c hl hc
   exact hp.lt (bT h1)⟩
 ·by_cases hne:i=t
  ·subst hne
   rw[h0] at hl
   cases hl
   exact⟨n',by rw[bh,if_pos rfl],by omega,fun h=>by omega⟩
  ·exact⟨n1,by rw[bh,if_neg hne]; exact hl,ai _,fun _=>⟨if_neg hne,if_neg hne⟩⟩
 ·by_cases hne:i=t
  ·right
   subst hne
   show _≤(if _ then _ else _)
   rw[if_pos rfl]
   exact ai _
  ·left
   obtain⟨c,hc,BB⟩:=hi
   rw[bh,if_neg hne] at hc
   exact⟨⟨c,hc,BB⟩,if_neg hne⟩
 ·have hne:i≠t:=by rintro rfl; rw[h0] at hl; cases hl
  exact⟨l,z,by rw[bh,if_neg hne]; exact hl,ai _,fun e=>⟨rfl,e⟩,fun _=>⟨if_neg hne,if_neg hne⟩⟩
theorem LN {t k:Nat} {F:Nat→Prop} {e:TypeId} {s n n':Nat} {arr:Array Value} (hR:Rel x) (h0:x.S[t]? = some (.tail e s n)) (hp:mH x.w w' (.cells arr e (0,0))) (hlt:n<n')
  (hs:arr.size=k*s) (hn:n'≤arr.size) (hk:k≤maxLen) (hF:∀ o,F o→o<n'):Rel (x.iX w' t k F (.tail e s n')):=by
 have M:=Be (k:=k) (F:=F) hR h0 hp hlt
 have bh:∀ j,(x.iX w' t k F (.tail e s n')).S[j]? = if j=t then some (.tail e s n') else x.S[j]? := fun j=>fK h0 _ j
 have hμ:∀ i,i≠t→(x.iX w' t k F (.tail e s n')).μ i=x.μ i:=fun i h=>if_neg h
 have hκ:∀ i,i≠t→(x.iX w' t k F (.tail e s n')).κ i=x.κ i:=fun i h=>if_neg h
 have hμn:(x.iX w' t k F (.tail e s n')).μ t=x.w.heap.size:=if_pos rfl
 have hκn:(x.iX w' t k F (.tail e s n')).κ t=k:=if_pos rfl
 have mF:∀ i,Live (x.iX w' t k F (.tail e s n')).S i→Live x.S i:=by
  rintro i ⟨c,hc,BB⟩
  rw[bh] at hc
  split at hc
  ·rename_i h; subst h; exact aS h0 (by simp)
  ·exact⟨c,hc,BB⟩
 constructor
 ·intro i l hl
  rw[bh] at hl
  by_cases h:i=t
  ·rw[if_pos h] at hl; cases hl
  ·rw[if_neg h] at hl
   obtain⟨a,e,h1,h2,h3⟩:=hR.cells i l hl
   rw[hμ i h]
   exact⟨a,e,(hp.lt (bT h1)).trans h1,h2,fun j c hc=>(h3 j c hc).mono M⟩
 ·intro i e1 s1 n1 hl
  rw[bh] at hl
  by_cases h:i=t
  ·subst h
   rw[if_pos rfl] at hl
   cases hl
   rw[hμn,hκn]
   exact⟨arr,hp.new,hs,hn,hk⟩
  ·rw[if_neg h] at hl
   obtain⟨a,h1,h2⟩:=hR.dz i e1 s1 n1 hl
   rw[hμ i h,hκ i h]
   exact⟨a,(hp.lt (bT h1)).trans h1,h2⟩
 ·intro i c hl hc
  rw[bh] at hl
  by_cases h:i=t
  ·rw[if_pos h] at hl; cases hl; cases hc
  ·rw[if_neg h] at hl
   obtain⟨o,h1,h2⟩:=hR.dD i c hl hc
   rw[hμ i h]
   exact⟨o,(hp.lt (bT h1)).trans h1,h2.mono M⟩
 ·intro i j hi hj he
  by_cases h1:i=t
  ·by_cases h2:j=t
   ·rw[h1,h2]
   ·rw[h1,hμn,hμ j h2] at he
    have:=hR.gr (mF j hj)
    omega
  ·by_cases h2:j=t
   ·rw[h2,hμn,hμ i h1] at he
    have:=hR.gr (mF i hi)
    omega
   ·rw[hμ i h1,hμ j h2] at he
    exact hR.inj i j (mF i hi) (mF j hj) he
 ·intro c o h
  rcases h with h | ⟨rfl,h⟩
  ·obtain⟨v,hv⟩:=hR.xH c o h
   exact⟨v,(M.fz c o h).2.trans hv⟩
  ·have:=hF o h
   refine⟨arr[o]'(by omega),?_⟩
   show w'.cell? _=_
   simp only[World.cell?,hp.new]
   exact bL _
 ·rintro i ⟨l,hl⟩ o ho
  rw[bh] at hl
  by_cases h:i=t
  ·rw[if_pos h] at hl; cases hl
  ·rw[if_neg h] at hl
   rw[hμ i h] at ho
   rcases ho with ho | ⟨ho,-⟩
   ·exact hR.sep i ⟨l,hl⟩ o ho
   ·have:=hR.gr (aS hl (by simp)); omega
 ·intro i e1 s1 n1 hl o ho
  rw[bh] at hl
  by_cases h:i=t
  ·subst h
   rw[if_pos rfl] at hl
   cases hl
   rw[hμn] at ho
   rcases ho with ho | ⟨-,ho⟩
   ·have:=hR.s4 ho; omega
   ·exact hF o ho
  ·rw[if_neg h] at hl
   rw[hμ i h] at ho
   rcases ho with ho | ⟨ho,-⟩
   ·exact hR.ng i e1 s1 n1 hl o ho
   ·have:=hR.gr (aS hl (by simp)); omega
 ·intro i e1 s1 l z hl
  rw[bh] at hl
  by_cases h:i=t
  ·rw[if_pos h] at hl; cases hl
  ·rw[if_neg h] at hl
   obtain⟨a,h1,h2,h3,h4,h5,h6,h7⟩:=hR.ops i e1 s1 l z hl
   rw[hμ i h,hκ i h]
   refine⟨a,(hp.lt (bT h1)).trans h1,h2,h3,h4,fun j c hc=>⟨(h5 j c hc).1,(h5 j c hc).2.mono M⟩,fun hz j hj => .inl (h6 hz j hj),fun hz o ho => ?_⟩
   rcases ho with ho | ⟨ho,-⟩
   ·exact h7 hz o ho
   ·have:=hR.gr (aS hl (by simp)); omega
theorem CH {t k:Nat} {ob:Obj} {e:TypeId} {s:Nat} {l l':List DV} (hR:Rel x) (h0:x.S[t]? = some (.op e s l false)) (hp:mH x.w w' ob) (hlt:l.length<l'.length):bE x (x.iX w' t k (fun _=>False) (.op e s l' false)):=by
 have bh:∀ j,(x.iX w' t k (fun _=>False) (.op e s l' false)).S[j]? = if j=t then some (.op e s l' false) else x.S[j]? := fun j=>fK h0 _ j
 refine⟨by show _≤w'.heap.size; rw[hp.heap]; simp,hp.env,fun c o h=>⟨.inl h,cell_of_block (hp.lt (hR.s4 h)) o⟩,fun c o h => ?_,fun c hc _=>hp.lt hc,by show _≤(x.S.set _ _).length; simp,fun i l hl => ?_,fun i c hl hc => ?_,fun i e1 s1 n1 hl => ?_,fun i hi => ?_,fun i e1 s1 l1 z hl => ?_⟩
 ·rcases h with h | h
  ·exact .inl h
  ·exact h.2.elim
 ·have hne:i≠t:=by rintro rfl; rw[h0] at hl; cases hl
  exact⟨if_neg hne,l,by rw[bh,if_neg hne]; exact hl⟩
 ·have hne:i≠t:=by rintro rfl; rw[h0] at hl; cases hl; cases hc
  exact⟨if_neg hne,⟨c,by rw[bh,if_neg hne]; exact hl,eu hc⟩,fun _=>by
   obtain⟨o,h1,-⟩:=hR.dD i c hl hc
   exact hp.lt (bT h1)⟩
 ·have hne:i≠t:=by rintro rfl; rw[h0] at hl; cases hl
  exact⟨n1,by rw[bh,if_neg hne]; exact hl,ai _,fun _=>⟨if_neg hne,if_neg hne⟩⟩
 ·by_cases hne:i=t
  ·right
   subst hne
   show _≤(if _ then _ else _)
   rw[if_pos rfl]
   exact ai _
  ·left
   obtain⟨c,hc,BB⟩:=hi
   rw[bh,if_neg hne] at hc
   exact⟨⟨c,hc,BB⟩,if_neg hne⟩
 ·by_cases hne:i=t
  ·subst hne
   rw[h0] at hl
   cases hl
   exact⟨l',false,by rw[bh,if_pos rfl],by omega,by simp,fun h=>by omega⟩
  ·exact⟨l1,z,by rw[bh,if_neg hne]; exact hl,ai _,fun e=>⟨rfl,e⟩,fun _=>⟨if_neg hne,if_neg hne⟩⟩
theorem PT {t k:Nat} {e:TypeId} {s:Nat} {l l':List DV} {arr:Array Value} (hR:Rel x) (h0:x.S[t]? = some (.op e s l false)) (hp:mH x.w w' (.cells arr e (0,0))) (hlt:l.length<l'.length)
  (hs:arr.size=k*s) (hn:l'.length≤arr.size) (hk:k≤maxLen) (hc:∀ j c,l'[j]? = some c→c.bF=true∧RV x c (arr.getD j undef)):Rel (x.iX w' t k (fun _=>False) (.op e s l' false)):=by
 have M:=CH (k:=k) hR h0 hp hlt
 have bh:∀ j,(x.iX w' t k (fun _=>False) (.op e s l' false)).S[j]? = if j=t then some (.op e s l' false) else x.S[j]? := fun j=>fK h0 _ j
 have hμ:∀ i,i≠t→(x.iX w' t k (fun _=>False) (.op e s l' false)).μ i=x.μ i:=fun i h=>if_neg h
 have hκ:∀ i,i≠t→(x.iX w' t k (fun _=>False) (.op e s l' false)).κ i=x.κ i:=fun i h=>if_neg h
 have hμn:(x.iX w' t k (fun _=>False) (.op e s l' false)).μ t=x.w.heap.size:=if_pos rfl
 have hκn:(x.iX w' t k (fun _=>False) (.op e s l' false)).κ t=k:=if_pos rfl
 have Hu:∀ c o,(x.iX w' t k (fun _=>False) (.op e s l' false)).Fz c o→x.Fz c o:=fun c o h=>h.elim id fun h=>h.2.elim
 have mF:∀ i,Live (x.iX w' t k (fun _=>False) (.op e s l' false)).S i→Live x.S i:=by
  rintro i ⟨c,hc,BB⟩
  rw[bh] at hc
  split at hc
  ·rename_i h; subst h; exact aS h0 (by simp)
  ·exact⟨c,hc,BB⟩
 constructor
 ·intro i l1 hl
  rw[bh] at hl
  by_cases h:i=t
  ·rw[if_pos h] at hl; cases hl
  ·rw[if_neg h] at hl
   obtain⟨a,e,h1,h2,h3⟩:=hR.cells i l1 hl
   rw[hμ i h]
   exact⟨a,e,(hp.lt (bT h1)).trans h1,h2,fun j c hc=>(h3 j c hc).mono M⟩
 ·intro i e1 s1 n1 hl
  rw[bh] at hl
  by_cases h:i=t
  ·rw[if_pos h] at hl; cases hl
  ·rw[if_neg h] at hl
   obtain⟨a,h1,h2⟩:=hR.dz i e1 s1 n1 hl
   rw[hμ i h,hκ i h]
   exact⟨a,(hp.lt (bT h1)).trans h1,h2⟩
 ·intro i c hl hc
  rw[bh] at hl
  by_cases h:i=t
  ·rw[if_pos h] at hl; cases hl; cases hc
  ·rw[if_neg h] at hl
   obtain⟨o,h1,h2⟩:=hR.dD i c hl hc
   rw[hμ i h]
   exact⟨o,(hp.lt (bT h1)).trans h1,h2.mono M⟩
 ·intro i j hi hj he
  by_cases h1:i=t
  ·by_cases h2:j=t
   ·rw[h1,h2]
   ·rw[h1,hμn,hμ j h2] at he
    have:=hR.gr (mF j hj)
    omega
  ·by_cases h2:j=t
   ·rw[h2,hμn,hμ i h1] at he
    have:=hR.gr (mF i hi)
    omega
   ·rw[hμ i h1,hμ j h2] at he
    exact hR.inj i j (mF i hi) (mF j hj) he
 ·intro c o h
  have h:=Hu c o h
  obtain⟨v,hv⟩:=hR.xH c o h
  exact⟨v,(M.fz c o h).2.trans hv⟩
 ·rintro i ⟨l1,hl⟩ o ho
  rw[bh] at hl
  by_cases h:i=t
  ·rw[if_pos h] at hl; cases hl
  ·rw[if_neg h] at hl
   rw[hμ i h] at ho
   exact hR.sep i ⟨l1,hl⟩ o (Hu _ _ ho)
 ·intro i e1 s1 n1 hl o ho
  rw[bh] at hl
  by_cases h:i=t
  ·rw[if_pos h] at hl; cases hl
  ·rw[if_neg h] at hl
   rw[hμ i h] at ho
   exact hR.ng i e1 s1 n1 hl o (Hu _ _ ho)
 ·intro i e1 s1 l1 z hl
  rw[bh] at hl
  by_cases h:i=t
  ·subst h
   rw[if_pos rfl] at hl
   cases hl
   rw[hμn,hκn]
   refine⟨arr,hp.new,hs,hn,hk,fun j c h=>⟨(hc j c h).1,(hc j c h).2.mono M⟩,by simp,fun _ o ho => ?_⟩
   have:=hR.s4 (Hu _ _ ho)
   omega
  ·rw[if_neg h] at hl
   obtain⟨a,h1,h2,h3,h4,h5,h6,h7⟩:=hR.ops i e1 s1 l1 z hl
   rw[hμ i h,hκ i h]
   exact⟨a,(hp.lt (bT h1)).trans h1,h2,h3,h4,fun j c hc=>⟨(h5 j c hc).1,(h5 j c hc).2.mono M⟩,fun hz j hj => .inl (h6 hz j hj),fun hz o ho=>h7 hz o (Hu _ _ ho)⟩
def Cx.close (x:Cx) (id:Nat) (e:TypeId) (s:Nat) (l:List DV):Cx:=⟨x.w,x.μ,x.κ,fun c o=>x.Fz c o∨(c=x.μ id∧o<l.length),x.S.set id (.op e s l true)⟩
theorem Bf {id:Nat} {e:TypeId} {s:Nat} {l:List DV} (h0:x.S[id]? = some (.op e s l false)):bE x (x.close id e s l):=by
 have bh:∀ j,(x.close id e s l).S[j]? = if j=id then some (.op e s l true) else x.S[j]? := fun j=>fK h0 _ j
 have hne:∀ {i c},x.S[i]? = some c→(∀ e s l z,c≠DB.op e s l z)→(x.close id e s l).S[i]? = some c:=fun {i c} h hc=>by
  rw[bh,if_neg]
  ·exact h
  ·rintro rfl
   rw[h0] at h
   cases h
   exact hc _ _ _ _ rfl
 refine⟨ai _,⟨rfl,rfl⟩,fun c o h=>⟨.inl h,rfl⟩,fun c o h => ?_,fun c hc _=>rfl,by show _≤(x.S.set _ _).length; simp,fun i l hl=>⟨rfl,l,hne hl (by simp)⟩,fun i c hl hc=>⟨rfl,⟨c,hne hl (by rintro _ _ _ _ rfl; cases hc),eu hc⟩,fun _=>rfl⟩,fun i e1 s1 n1 hl=>⟨n1,hne hl (by simp),ai _,fun _=>⟨rfl,rfl⟩⟩,fun i hi => .inl ⟨?_,rfl⟩,fun i e1 s1 l1 z hl => ?_⟩
 ·rcases h with h | ⟨rfl,-⟩
  ·exact .inl h
  ·exact .inr (.inr ⟨id,aS h0 (by simp),rfl⟩)
 ·obtain⟨c,hc,BB⟩:=hi
  rw[bh] at hc
  split at hc
  ·rename_i e; subst e; exact aS h0 (by simp)
  ·exact⟨c,hc,BB⟩
 ·by_cases h:i=id
  ·subst h
   rw[h0] at hl
   cases hl
   exact⟨l,true,by rw[bh,if_pos rfl],ai _,by simp,fun _=>⟨rfl,rfl⟩⟩
  ·exact⟨l1,z,by rw[bh,if_neg h]; exact hl,ai _,fun e=>⟨rfl,e⟩,fun _=>⟨rfl,rfl⟩⟩
theorem LQ {id:Nat} {e:TypeId} {s:Nat} {l:List DV} (hR:Rel x) (h0:x.S[id]? = some (.op e s l false)):Rel (x.close id e s l):=by
 have M:=Bf (x:=x) h0
 have bh:∀ j,(x.close id e s l).S[j]? = if j=id then some (.op e s l true) else x.S[j]? := fun j=>fK h0 _ j
 have hgo:∀ {i c},(x.close id e s l).S[i]? = some c→(∀ e s l z,c≠DB.op e s l z)→x.S[i]? = some c∧i≠id:=fun {i c} h hc=>by
  rw[bh] at h
  split at h
  ·cases h; exact absurd rfl (hc _ _ _ _)
  ·exact⟨h,‹_›⟩
 have mF:∀ i,Live (x.close id e s l).S i→Live x.S i:=fun i hi=>by
  obtain⟨c,hc,BB⟩:=hi
  rw[bh] at hc
  split at hc
  ·rename_i e; subst e; exact aS h0 (by simp)
  ·exact⟨c,hc,BB⟩
 obtain⟨arr,a1,a2,a3,a4,a5,-,-⟩:=hR.ops id e s l false h0
 constructor
 ·intro i l1 hl
  obtain⟨hl,-⟩:=hgo hl (by simp)
  obtain⟨a,e,h1,h2,h3⟩:=hR.cells i l1 hl
  exact⟨a,e,h1,h2,fun j c hc=>(h3 j c hc).mono M⟩
 ·intro i e1 s1 n1 hl
  obtain⟨hl,-⟩:=hgo hl (by simp)
  exact hR.dz i e1 s1 n1 hl
 ·intro i c hl hc
  obtain⟨hl,-⟩:=hgo hl (by rintro _ _ _ _ rfl; cases hc)
  obtain⟨o,h1,h2⟩:=hR.dD i c hl hc
  exact⟨o,h1,h2.mono M⟩
 ·exact fun i j hi hj he=>hR.inj i j (mF i hi) (mF j hj) he
 ·intro c o h
  rcases h with h | ⟨rfl,h⟩
  ·exact hR.xH c o h
  ·exact⟨arr[o]'(by omega),by show x.w.cell? _=_; simp only[World.cell?,a1]; exact bL _⟩
 ·rintro i ⟨l1,hl⟩ o ho
  obtain⟨hl,hi⟩:=hgo hl (by simp)
  rcases ho with ho | ⟨ho,-⟩
  ·exact hR.sep i ⟨l1,hl⟩ o ho
  ·exact hi (hR.inj i id (aS hl (by simp)) (aS h0 (by simp)) ho)
 ·intro i e1 s1 n1 hl o ho
  obtain⟨hl,hi⟩:=hgo hl (by simp)
  rcases ho with ho | ⟨ho,-⟩
  ·exact hR.ng i e1 s1 n1 hl o ho
  ·exact(hi (hR.inj i id (aS hl (by simp)) (aS h0 (by simp)) ho)).elim
 ·intro i e1 s1 l1 z hl
  rw[bh] at hl
  by_cases h:i=id
  ·subst h
   rw[if_pos rfl] at hl
   cases hl
   exact⟨arr,a1,a2,a3,a4,fun j c hc=>⟨(a5 j c hc).1,(a5 j c hc).2.mono M⟩,fun _ j hj => .inr ⟨rfl,hj⟩,by simp⟩
  ·rw[if_neg h] at hl
   obtain⟨a,h1,h2,h3,h4,h5,h6,h7⟩:=hR.ops i e1 s1 l1 z hl
   refine⟨a,h1,h2,h3,h4,fun j c hc=>⟨(h5 j c hc).1,(h5 j c hc).2.mono M⟩,fun hz j hj => .inl (h6 hz j hj),fun hz o ho => ?_⟩
   rcases ho with ho | ⟨ho,-⟩
   ·exact h7 hz o ho
   ·exact h (hR.inj i id (aS hl (by simp)) (aS h0 (by simp)) ho)
def bR (w:World) (r:Nat) (o:Obj):World:={ w with heap:=w.heap.setIfInBounds r o }
theorem fG (w:World) (r:Nat) (o:Obj) {b:Nat} (h:b≠r):(bR w r o).heap[b]? = w.heap[b]? := by
 simp[bR,Ne.symm h]
theorem vP (w:World) (r:Nat) (o o0:Obj) (h:w.heap[r]? = some o0):(bR w r o).heap[r]? = some o:=by
 have:=bT h
 simp[bR,this]
theorem Mi {b:DB} {o:Obj} (hb:b.isObj=true) (h:qM x b o):∀ arr e fr,o ≠ .cells arr e fr:=by
 rintro arr e fr rfl
 cases b<;>simp_all [DB.isObj,qM]
theorem Rel.O0 (hR:Rel x) {id:Nat} {b:DB} (h0:x.S[id]? = some b) (hb:b.isObj=true) (o:Nat):¬ x.Fz (x.μ id) o:=by
 intro hf
 obtain⟨ob,h1,h2⟩:=hR.dD id b h0 hb
 obtain⟨v,hv⟩:=hR.xH _ _ hf
 have:=Mi hb h2
 unfold World.cell? at hv
 simp only[h1] at hv
 cases ob<;>first | (exact this _ _ _ rfl) | simp at hv
def Cx.tw (x:Cx) (id:Nat) (o:Obj) (b:DB):Cx:=⟨bR x.w (x.μ id) o,x.μ,x.κ,x.Fz,x.S.set id b⟩
theorem xb {id:Nat} {o:Obj} {b0 b:DB} (hR:Rel x) (h0:x.S[id]? = some b0) (hl:b0.like b) (hd:b0 ≠ .defer):bE x (x.tw id o b):=by
 have EU:=(qZ hl).1
 have bh:∀ j,(x.tw id o b).S[j]? = if j=id then some b else x.S[j]? := fun j=>fK h0 b j
 refine⟨by show _≤(bR _ _ _).heap.size; simp[bR],⟨rfl,rfl⟩,fun c p h=>⟨h,cell_of_block (fG _ _ _ ?_) p⟩,fun c p h => .inl h,fun c hc hn=>fG _ _ _ fun e=>hn id (aS h0 (fq EU)) e.symm,by show _≤(x.S.set _ _).length; simp,fun i l iV=>⟨rfl,l,?_⟩,fun i c iV hc=>⟨rfl,?_,fun uC => ?_⟩,fun t e s n ht=>⟨n,?_,ai _,fun _=>⟨rfl,rfl⟩⟩,fun i hi => .inl ⟨?_,rfl⟩,fun t e s l z ht=>⟨l,z,?_,ai _,fun e=>⟨rfl,e⟩,fun _=>⟨rfl,rfl⟩⟩⟩
 ·rintro rfl
  exact hR.O0 h0 EU p h
 ·rw[bh,if_neg (by rintro rfl; rw[h0] at iV; cases iV; cases EU)]
  exact iV
 ·rw[bh]
  split
  ·rename_i e
   subst e
   rw[h0] at iV
   cases iV
   exact⟨b,rfl,hl⟩
  ·exact⟨c,iV,eu hc⟩
 ·subst uC
  refine fG _ _ _ fun e => ?_
  have:=hR.inj i id (aS iV (by simp)) (aS h0 (fq EU)) e
  subst this
  rw[h0] at iV
  cases iV
  exact hd rfl
 ·rw[bh,if_neg (by rintro rfl; rw[h0] at ht; cases ht; cases EU)]
  exact ht
 ·obtain⟨c,hc,BB⟩:=hi
  rw[bh] at hc
  split at hc
  ·rename_i e; subst e; exact aS h0 (fq EU)
  ·exact⟨c,hc,BB⟩
 ·rw[bh,if_neg (by rintro rfl; rw[h0] at ht; cases ht; cases EU)]
  exact ht
theorem FT {id:Nat} {o:Obj} {b0 b:DB} (hR:Rel x) (h0:x.S[id]? = some b0) (hl:b0.like b) (hd:b0 ≠ .defer) (ho:qM (x.tw id o b) b o):Rel (x.tw id o b):=by
 have M:=xb (o:=o) hR h0 hl hd
 have EU:=(qZ hl).1
 have hb:=(qZ hl).2
 have bh:∀ j,(x.tw id o b).S[j]? = if j=id then some b else x.S[j]? := fun j=>fK h0 b j
 obtain⟨ob,hob,-⟩:=hR.dD id b0 h0 EU
 have mF:∀ i,Live (x.tw id o b).S i→Live x.S i:=fun i ⟨c,hc,BB⟩=>by
  rw[bh] at hc
  split at hc
  ·rename_i e; subst e; exact aS h0 (fq EU)
  ·exact⟨c,hc,BB⟩
 have Du:∀ i,i≠id→Live x.S i→(bR x.w (x.μ id) o).heap[x.μ i]? = x.w.heap[x.μ i]? := fun i hi wq=>fG _ _ _ fun e=>hi (hR.inj i id wq (aS h0 (fq EU)) e)
 constructor
 ·intro i l iV
  rw[bh] at iV
  by_cases h:i=id
  ·rw[if_pos h] at iV; cases iV; cases hb
  ·rw[if_neg h] at iV
   obtain⟨a,e,h1,h2,h3⟩:=hR.cells i l iV
   exact⟨a,e,(Du i h (aS iV (by simp))).trans h1,h2,fun j c hc=>(h3 j c hc).mono M⟩
 ·intro i e s n iV
  rw[bh] at iV
  by_cases h:i=id
  ·rw[if_pos h] at iV; cases iV; cases hb
  ·rw[if_neg h] at iV
   obtain⟨a,h1,h2⟩:=hR.dz i e s n iV
   exact⟨a,(Du i h (aS iV (by simp))).trans h1,h2⟩
 ·intro i c iV hc
  rw[bh] at iV
  by_cases h:i=id
  ·subst h
   rw[if_pos rfl] at iV
   cases iV
   exact⟨o,vP _ _ _ _ hob,ho⟩
  ·rw[if_neg h] at iV
   obtain⟨o',h1,h2⟩:=hR.dD i c iV hc
   exact⟨o',(Du i h (aS iV (fq hc))).trans h1,h2.mono M⟩
 ·exact fun i j hi hj he=>hR.inj i j (mF i hi) (mF j hj) he
 ·intro c p h
  obtain⟨v,hv⟩:=hR.xH c p h
  exact⟨v,(M.fz c p h).2.trans hv⟩
 ·rintro i ⟨l,iV⟩ p hp
  rw[bh] at iV
  by_cases h:i=id
  ·rw[if_pos h] at iV; cases iV; cases hb
  ·rw[if_neg h] at iV
   exact hR.sep i ⟨l,iV⟩ p hp
 ·intro i e s n iV p hp
  rw[bh] at iV
  by_cases h:i=id
  ·rw[if_pos h] at iV; cases iV; cases hb
  ·rw[if_neg h] at iV
   exact hR.ng i e s n iV p hp
 ·intro i e s l z iV
  rw[bh] at iV
  by_cases h:i=id
  ·rw[if_pos h] at iV; cases iV; cases hb
  ·rw[if_neg h] at iV
   obtain⟨a,h1,h2,h3,h4,h5,h6⟩:=hR.ops i e s l z iV
   exact⟨a,(Du i h (aS iV (by simp))).trans h1,h2,h3,h4,fun j c hc=>⟨(h5 j c hc).1,(h5 j c hc).2.mono M⟩,h6⟩
theorem jo {r:Nat} {o o0:Obj} {w:World} (h:w.heap[r]? = some o0) (hn:∀ arr e fr,o0 ≠ .cells arr e fr):(setObj r o).run P w = .ok () (bR w r o):=by
 simp only[setObj,Sem.run,h]
 cases o0<;>first | rfl | exact absurd rfl (hn _ _ _)
theorem ir {r:Nat} {o0:Obj} {w:World} (h:w.heap[r]? = some o0) (hn:∀ arr e fr,o0 ≠ .cells arr e fr):(getObj r).run P w = .ok o0 w:=by
 unfold getObj Sem.run
 rw[h]
 cases o0<;>first | rfl | exact absurd rfl (hn _ _ _)
end Go.Di
end
section
namespace Go.Di
open Go
variable {P:Program} {ty:fI} {x:Cx} {w':World}
theorem mY {t:TypeId} {i:TypeInfo} (h:Ce P t=some i):P.info? t=some i∧∃ d,P.underlying t=some d:=by
 unfold Ce at h
 split at h
 ·rename_i i' d h1 h2; cases h; exact⟨h1,d,h2⟩
 ·cases h
theorem bK {t:TypeId} {k:TK} {sz:Nat} {z:Option (List DV)} (h:NB P t=some ⟨k,sz,z⟩):BI P t=some k∧∃ i,P.info? t=some i∧i.size=sz∧zeroOf i=z:=by
 unfold NB at h
 split at h
 ·rename_i k' i h1 h2
  cases h
  exact⟨h1,i,h2,rfl,rfl⟩
 ·cases h
theorem iz {i:TypeInfo} {cs:List DV} (h:zeroOf i=some cs):∃ z,i.zero=some z∧pF z.cells.toList=some cs∧cs.length=i.size:=by
 unfold zeroOf at h
 split at h
 ·rename_i z hz
  split at h
  ·rename_i iB hc
   split at h
   ·cases h; exact⟨z,hz,hc,‹_›⟩
   ·cases h
  ·cases h
 ·cases h
theorem jT {t:TypeId} {e s b:Nat} {agg:Bool} (h:BI P t=some (.slice e s b agg)):P.underlying t=some (.slice e)∧∃ i,P.info? e=some i∧i.size=s∧i.bytes=b∧mN P e=agg:=by
 unfold BI at h
 split at h
 ·simp only[ah] at h; obtain⟨_,_,h⟩:=h; cases h
 ·simp only[ah] at h; obtain⟨_,_,h⟩:=h; cases h
 ·rename_i e' he
  simp only[ah] at h
  obtain⟨i,h1,h⟩:=h
  cases h
  exact⟨he,i,(mY h1).1,rfl,rfl,rfl⟩
 ·cases h
 ·cases h
theorem vu {t:TypeId} {n s:Nat} {agg:Bool} (h:BI P t=some (.array n s agg)):∃ e,P.underlying t=some (.array n e)∧∃ i,P.info? e=some i∧i.size=s∧mN P e=agg∧∃ d0,P.underlying e=some d0:=by
 unfold BI at h
 split at h
 ·simp only[ah] at h; obtain⟨_,_,h⟩:=h; cases h
 ·rename_i m e' he
  simp only[ah] at h
  obtain⟨i,h1,h⟩:=h
  cases h
  exact⟨e',he,i,(mY h1).1,rfl,rfl,(mY h1).2⟩
 ·simp only[ah] at h; obtain⟨_,_,h⟩:=h; cases h
 ·cases h
 ·cases h
def Em (P:Program) (f:Field) (r:Nat×Nat×Bool):Prop:=f.offset=r.1∧∃ i,P.info? f.type=some i∧i.size=r.2.1∧mN P f.type=r.2.2∧∃ d0,P.underlying f.type=some d0
theorem yj:∀ {l:List Field} {fs:List (Nat×Nat×Bool)},(l.mapM fun f=>(Ce P f.type).map fun i=>(f.offset,i.size,mN P f.type))=some fs→l.length=fs.length∧∀ (j:Nat) (r:Nat×Nat×Bool),fs[j]? = some r→∃ f,l[j]? = some f∧Em P f r
 | [],fs,h=>by
  have:fs=[]:=by simpa using h.symm
  subst this; simp
 | f::l,fs,h=>by
  simp only[List.mapM_cons,Option.bind_eq_bind,jS,ah,Option.pure_def,az] at h
  obtain⟨r,⟨i,h1,rfl⟩,y6,h2,rfl⟩:=h
  obtain⟨h3,h4⟩:=yj h2
  refine⟨by simp[h3],fun j r hr => ?_⟩
  cases j with
  | zero=>simp only[List.getElem?_cons_zero,az] at hr; subst hr; exact⟨f,rfl,rfl,i,(mY h1).1,rfl,rfl,(mY h1).2⟩
  | succ j=>simpa using h4 j r (by simpa using hr)
theorem wR {t:TypeId} {fs:List (Nat×Nat×Bool)} (h:BI P t=some (.struct fs)):∃ fields:Array Field,P.underlying t=some (.struct fields)∧fields.size=fs.length∧∀ (j:Nat) (r:Nat×Nat×Bool),fs[j]? = some r→∃ f,fields[j]? = some f∧Em P f r:=by
 unfold BI at h
 split at h
 ·rename_i fields he
  simp only[ah] at h
  obtain⟨y6,h1,h⟩:=h
  cases h
  obtain⟨h2,h3⟩:=yj h1
  exact⟨fields,he,by simpa using h2,fun j r hr=>by simpa using h3 j r hr⟩
 ·simp only[ah] at h; obtain⟨_,_,h⟩:=h; cases h
 ·simp only[ah] at h; obtain⟨_,_,h⟩:=h; cases h
 ·cases h
 ·cases h
theorem HN {t:TypeId} {k:TK} (h:BI P t=some k):k.isAgg=mN P t∧∃ d,P.underlying t=some d:=by
 unfold BI at h
 unfold mN
 split at h
 ·rename_i fields he
  simp only[ah] at h; obtain⟨_,_,rfl⟩:=h; rw[he]; exact⟨rfl,_,rfl⟩
 ·rename_i n e he
  simp only[ah] at h; obtain⟨_,_,rfl⟩:=h; rw[he]; exact⟨rfl,_,rfl⟩
 ·rename_i e he
  simp only[ah] at h; obtain⟨_,_,rfl⟩:=h; rw[he]; exact⟨rfl,_,rfl⟩
 ·rename_i d h1 h2 h3 he
  cases h
  rw[he]
  refine⟨?_,_,rfl⟩
  cases d with
  | struct fs=>exact(h1 fs rfl).elim
  | array n e=>exact(h2 n e rfl).elim
  | _=>rfl
 ·cases h
theorem rY {t:TypeId} {d:TypeDesc} (h:P.underlying t=some d) (w:World):(isAgg t).run P w = .ok (mN P t) w:=by
 unfold isAgg mN
 simp only[Sem.run_bind,run_underlying h,Result.andThen_ok,h]
 cases d<;>rfl
theorem run_sizeOf {t:TypeId} {i:TypeInfo} (h:P.info? t=some i) (w:World):(sizeOf t).run P w = .ok i.size w:=by
 simp[sizeOf,typeInfo,h]
theorem JY {l:List DV} {v:Value} (h:RV x (.agg l) v):∃ vs,v = .agg vs∧fR x l vs:=by cases h with | agg h hl=>exact⟨_,rfl,h,hl⟩
theorem vG {s:Nat}:∀ {rows:List DV},(∀ r∈rows,r.cells.length=s)→∀ {i:Nat} {r:DV},rows[i]? = some r→∀ {j:Nat},j<s→(flat rows)[i*s+j]? = r.cells[j]?
 | [],_,i,r,h,_,_=>by simp at h
 | r0::rows,hs,i,r,h,j,hj=>by
  have h0:r0.cells.length=s:=hs r0 (by simp)
  simp only[flat,gv]
  cases i with
  | zero =>
   simp only[List.getElem?_cons_zero,az] at h
   subst h
   rw[ep (by omega)]
   simp
  | succ i =>
   have he:(i+1)*s+j=s+(i*s+j):=by rw[kK]; omega
   rw[he,fQ (by omega),h0,nG]
   exact vG (rows:=rows) (fun r hr=>hs r (by simp[hr])) (by simpa using h) hj
theorem fW {s:Nat}:∀ {rows:List DV},(∀ r∈rows,r.cells.length=s)→(flat rows).length=rows.length*s
 | [],_=>by simp[flat]
 | r::rows,h=>by
  have:=fW (rows:=rows) fun r hr=>h r (by simp[hr])
  have h0:=h r (by simp)
  simp only[flat] at this
  simp only[flat,gv,cO,this,h0,List.length_cons,kK]
  omega
theorem gI (b o n:Nat):(⟨b,o,none⟩:Addr).add n=⟨b,o+n,none⟩:=by unfold Addr.add; split<;>simp_all
theorem C4 {l cs:List DV} {off n:Nat} (h:NR l off n=some cs):cs.length=n∧off+n≤l.length∧∀ j,j<n→cs[j]? = l[off+j]? := by
 unfold NR at h
 split at h
 ·cases h
  refine⟨by simp; omega,‹_›,fun j hj => ?_⟩
  rw[mb,if_pos hj,pK]
 ·cases h
theorem xe {t:TypeId} {i:TypeInfo} {d0:TypeDesc} {b o off size:Nat} {agg:Bool} {l:List DV} {d:DV} (hi:P.info? t=some i) (hu:P.underlying t=some d0) (hs:i.size=size) (ha:mN P t=agg)
  (hc:∀ j c,l[j]? = some c→∃ v,x.w.cell? ⟨b,o+j,none⟩=some v∧RV x c v) (h:mJ agg size l off=some d):∃ v,(loadVar t ⟨b,o+off,none⟩).run P x.w = .ok v x.w∧RV x d v:=by
 unfold mJ at h
 subst ha
 cases Dj:mN P t with
 | true =>
  rw[Dj,if_pos rfl,ah] at h
  obtain⟨cs,h1,rfl⟩:=h
  obtain⟨h2,h3,h4⟩:=C4 h1
  have hf:∀ j,j<size→∃ v,x.w.cell? ⟨b,o+off+j,none⟩=some v∧∀ c,cs[j]? = some c→RV x c v:=by
   intro j hj
   have hlt:off+j<l.length:=by omega
   obtain⟨v,k1,k2⟩:=hc (off+j) l[off+j] (bV hlt)
   refine⟨v,by rw[fO]; exact k1,fun c nK => ?_⟩
   rw[h4 j hj,bV hlt] at nK
   cases nK
   exact k2
  let f:Nat→Value:=fun j=>if hj:j<size then (hf j hj).choose else undef
  have Ns:∀ j,j<size→x.w.cell? ⟨b,o+off+j,none⟩=some (f j):=fun j hj=>by
   simp only[f,dif_pos hj]; exact(hf j hj).choose_spec.1
  have UM:∀ j,j<size→∀ c,cs[j]? = some c→RV x c (f j):=fun j hj=>by
   simp only[f,dif_pos hj]; exact(hf j hj).choose_spec.2
  refine⟨.agg ((List.range size).map f).toArray,?_,.agg (by simp[h2]) fun j c nK => ?_⟩
  ·unfold loadVar
   simp only[Sem.run_bind,rY hu,Dj,Result.andThen_ok,if_true,run_sizeOf hi,hs]
   rw[run_loadCells (P:=P) x.w ⟨b,o+off,none⟩ size f fun j hj=>by rw[gI]; exact Ns j hj]
   rfl
  ·have hj:j<size:=by have:=(aJ.1 nK).1; omega
   have:=UM j hj c nK
   simpa [aT,hj] using this
 | false =>
  rw[Dj] at h
  simp only[aD,if_false] at h
  obtain⟨v,k1,k2⟩:=hc off d h
  refine⟨v,?_,k2⟩
  unfold loadVar
  simp only[Sem.run_bind,rY hu,Dj,Result.andThen_ok,aD,if_false,run_load,k1]
theorem J9 {t:TypeId} {i:TypeInfo} {d0:TypeDesc} {off size:Nat} {agg:Bool} {l:List DV} {arr:Array Value} {d:DV} (hi:P.info? t=some i) (hu:P.underlying t=some d0) (hs:i.size=size) (ha:mN P t=agg)
  (hc:fR x l arr) (h:mJ agg size l off=some d) (w:World):∃ v,(part t arr off).run P w = .ok v w∧RV x d v:=by
 unfold mJ at h
 subst ha
 cases Dj:mN P t with
 | true =>
  rw[Dj,if_pos rfl,ah] at h
  obtain⟨cs,h1,rfl⟩:=h
  obtain⟨h2,h3,h4⟩:=C4 h1
  refine⟨.agg (arr.extract off (off+size)),?_,.agg (by simp[h2,hc.1]; omega) fun j c nK => ?_⟩
  ·unfold part
   simp only[Sem.run_bind,rY hu,Dj,Result.andThen_ok,if_true,run_sizeOf hi,hs]
   rfl
  ·have hj:j<size:=by have:=(aJ.1 nK).1; omega
   rw[h4 j hj] at nK
   have:=hc.2 _ _ nK
   have hlt:off+j<arr.size:=by rw[hc.1]; omega
   simp only[aT,Array.getElem?_extract] at this ⊢
   rw[if_pos (by omega)]
   exact this
 | false =>
  rw[Dj] at h
  simp only[aD,if_false] at h
  have hlt:off<arr.size:=by rw[hc.1]; exact(aJ.1 h).1
  refine⟨arr[off],?_,by simpa [aT,hlt] using hc.2 _ _ h⟩
  unfold part
  simp only[Sem.run_bind,rY hu,Dj,Result.andThen_ok,aD,if_false,bL hlt,Sem.run_pure]
theorem one_cell {d:DV} {v:Value} (h:RV x d v) (h1:d.one=true):v.oneCell'=true∧d.cells=[d]∧v.cells=#[v]:=by
 cases h with
 | @val v h =>
  cases v with
  | tuple vs=>simp[DV.one] at h1
  | agg vs=>simp[wE] at h
  | _=>exact⟨rfl,rfl,rfl⟩
 | agg h hl=>simp[DV.one] at h1
 | tup h hl=>simp[DV.one] at h1
 | sl hv hr h1 h2 h3 hsp h4=>exact⟨rfl,rfl,rfl⟩
 | ptr h=>exact⟨rfl,rfl,rfl⟩
 | ey hv hr=>exact⟨rfl,rfl,rfl⟩
 | fn h1 h2 h3 h4=>exact⟨rfl,rfl,rfl⟩
 | map h=>exact⟨rfl,rfl,rfl⟩
 | zx h=>exact⟨rfl,rfl,rfl⟩
 | gV h h1 h2=>exact⟨rfl,rfl,rfl⟩
 | eT h h1 h2=>exact⟨rfl,rfl,rfl⟩
theorem qT {d:DV} {v:Value} (h:RV x d v):fR x d.cells v.cells:=by
 have key:d.cells=[d]→v.cells=#[v]→fR x d.cells v.cells:=fun h1 h2=>by
  rw[h1,h2]
  refine⟨rfl,fun j c hc => ?_⟩
  cases j with
  | zero=>simp only[List.getElem?_cons_zero,az] at hc; subst hc; exact h
  | succ j=>simp at hc
 cases h with
 | agg h hl=>exact⟨h,hl⟩
 | @val v h =>
  cases v with
  | agg vs=>simp[wE] at h
  | _=>exact key rfl rfl
 | _=>exact key rfl rfl
theorem cells_one {d:DV} {v:Value} (h:RV x d v) (h1:d.cells.all DV.one=true):∀ u∈v.cells.toList,u.oneCell'=true:=by
 intro u hu
 have hc:=qT h
 obtain⟨j,hj,rfl⟩:=List.mem_iff_getElem.1 hu
 have yY:j<d.cells.length:=by rw[← hc.1]; simpa using hj
 have h2:=hc.2 j d.cells[j] (bV yY)
 have h3:d.cells[j].one=true:=aW.1 h1 _ (pI yY)
 have h4:=(one_cell h2 h3).1
 have Rs:j<v.cells.size:=by simpa using hj
 simpa [aT,Rs] using h4
theorem oH {l cs l':List DV} {off:Nat} (h:sK l off cs=some l'):off+cs.length≤l.length∧l'=l.take off++cs++l.drop (off+cs.length):=by
 unfold sK at h
 split at h
 ·cases h; exact⟨‹_›,rfl⟩
 ·cases h
theorem Ea {l cs:List DV} {arr vs:Array Value} {off:Nat} (hle:l.length≤arr.size) (ha:∀ j c,l[j]? = some c→RV x c (arr.getD j undef)) (hv:fR x cs vs) (h1:off≤l.length) (h2:off+cs.length≤arr.size) :
  ∀ j c,(l.take off++cs++l.drop (off+cs.length))[j]? = some c→RV x c ((arr.toList.take off++vs.toList++arr.toList.drop (off+vs.size)).toArray.getD j undef):=by
 intro j c hc
 have e2:=hv.1
 simp only[aT,List.getElem?_toArray]
 by_cases c1:j<off
 ·rw[jQ,ep (by simp; omega),mb,if_pos c1] at hc ⊢
  have:=ha j c hc
  simpa [aT] using this
 ·by_cases c2:j<off+cs.length
  ·rw[ep (by simp; omega),fQ (by simp; omega)] at hc ⊢
   have e3:(l.take off).length=off:=by simp; omega
   have e4:(arr.toList.take off).length=off:=by simp; omega
   rw[e3] at hc
   rw[e4]
   have:=hv.2 _ _ hc
   simpa [aT] using this
  ·have e3:(l.take off++cs).length=off+cs.length:=by simp; omega
   have e4:(arr.toList.take off++vs.toList).length=off+cs.length:=by simp; omega
   rw[fQ (by omega),e3,pK] at hc
   rw[fQ (by omega),e4,pK]
   have e5:off+vs.size+(j-(off+cs.length))=off+cs.length+(j-(off+cs.length)):=by omega
   rw[e5]
   have:=ha _ c hc
   simpa [aT] using this
theorem JX {l cs l':List DV} {arr vs:Array Value} {off:Nat} (hl:fR x l arr) (hv:fR x cs vs) (h:sK l off cs=some l'):fR x l' (arr.toList.take off++vs.toList++arr.toList.drop (off+vs.size)).toArray:=by
 obtain⟨h1,rfl⟩:=oH h
 have e1:=hl.1
 have e2:=hv.1
 exact⟨by simp; omega,Ea (by omega) hl.2 hv (by omega) (by omega)⟩
theorem jU {S:ak} {id n e s:Nat} {l:List DV} {z:Bool} (h:yW S id n=some (e,s,l,z)):S[id]? = some (.op e s l z)∧n*s=l.length:=by
 unfold yW at h
 split at h
 ·rename_i e' s' l' z' hS
  split at h
  ·cases h; exact⟨hS,‹_›⟩
  ·cases h
 ·cases h
theorem LZ {c:DV} (h:c.bF=true):c.one=true:=by cases c<;>simp_all [DV.bF,DV.one]
end Go.Di
end
