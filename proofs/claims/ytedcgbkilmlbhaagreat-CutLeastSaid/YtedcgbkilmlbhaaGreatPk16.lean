import Derived.Test.YtedcgbkilmlbhaaGreatPk15
section
namespace Go.Di
open Go
variable {P:Program} {ty:gF} {x:Cx} {w':World}
def Cx.froze (x:Cx) (w':World) (F:Nat→Prop):Cx:=⟨w',x.μ,x.κ,fun c o=>x.Fz c o∨(c=x.w.heap.size∧F o),x.S⟩
theorem qg {F:Nat→Prop} {ob:Obj} (hR:Rel x) (hp:nk x.w w' ob):cr x (x.froze w' F) where
 size:=by show _≤w'.heap.size; rw[hp.heap]; simp
 env:=hp.env
 fz:=fun c o h=>⟨.inl h,cell_of_block (hp.lt (hR.tn h)) o⟩
 Ld:=fun c o h=>by
  rcases h with h | h
  ·exact .inl h
  ·exact .inr (.inl (by omega))
 old:=fun c hc _=>hp.lt hc
 len:=ai _
 cells:=fun id l hl=>⟨rfl,l,hl⟩
 eB:=fun id c hl hc=>⟨rfl,⟨c,hl,eX hc⟩,fun _=>by
  obtain⟨o,h1,-⟩:=hR.eB id c hl hc
  exact hp.lt (b9 h1)⟩
 en:=fun t e s n ht=>⟨n,ht,ai _,fun _=>⟨rfl,rfl⟩⟩
 live:=fun i hi => .inl ⟨hi,rfl⟩
 ops:=fun _ _ _ l z h=>⟨l,z,h,ai _,fun e=>⟨rfl,e⟩,fun _=>⟨rfl,rfl⟩⟩
theorem Ma {F:Nat→Prop} {ob:Obj} (hR:Rel x) (hp:nk x.w w' ob) (hF:∀ o,F o→∃ v,w'.cell? ⟨x.w.heap.size,o,none⟩=some v):Rel (x.froze w' F) where
 cells:=fun id l hl=>by
  obtain⟨arr,e,h1,h2,h3⟩:=hR.cells id l hl
  exact⟨arr,e,(hp.lt (b9 h1)).trans h1,h2,fun j c hc=>(h3 j c hc).mono (qg hR hp)⟩
 en:=fun id e s n hl=>by
  obtain⟨arr,h1,h2⟩:=hR.en id e s n hl
  exact⟨arr,(hp.lt (b9 h1)).trans h1,h2⟩
 eB:=fun id c hl hc=>by
  obtain⟨o,h1,h2⟩:=hR.eB id c hl hc
  exact⟨o,(hp.lt (b9 h1)).trans h1,h2.mono (qg hR hp)⟩
 inj:=hR.inj
 yP:=fun c o h=>by
  rcases h with h | ⟨rfl,h⟩
  ·obtain⟨v,hv⟩:=hR.yP c o h
   exact⟨v,(cell_of_block (hp.lt (hR.tn h)) o).trans hv⟩
  ·exact hF o h
 sep:=fun id ⟨l,hl⟩ o ho=>by
  rcases ho with ho | ⟨ho,-⟩
  ·exact hR.sep id ⟨l,hl⟩ o ho
  ·have:x.μ id<x.w.heap.size:=hR.gK (aU hl (by simp))
   have ho:x.μ id=x.w.heap.size:=ho
   omega
 ox:=fun id e s n hl o ho=>by
  rcases ho with ho | ⟨ho,-⟩
  ·exact hR.ox id e s n hl o ho
  ·have:x.μ id<x.w.heap.size:=hR.gK (aU hl (by simp))
   have ho:x.μ id=x.w.heap.size:=ho
   omega
 ops:=fun id e s l z hl=>by
  obtain⟨arr,h1,h2,h3,h4,h5,h6,h7⟩:=hR.ops id e s l z hl
  refine⟨arr,(hp.lt (b9 h1)).trans h1,h2,h3,h4,fun j c hc=>⟨(h5 j c hc).1,(h5 j c hc).2.mono (qg hR hp)⟩,fun hz j hj => .inl (h6 hz j hj),fun hz o ho => ?_⟩
  rcases ho with ho | ⟨ho,-⟩
  ·exact h7 hz o ho
  ·have:x.μ id<x.w.heap.size:=hR.gK (aU hl (by simp))
   have ho:x.μ id=x.w.heap.size:=ho
   omega
def Cx.upd (x:Cx) (id:Nat) (arr:Array Value) (F:Nat→Prop) (b:DB):Cx:=⟨x.w.setRow (x.μ id) arr,x.μ,x.κ,fun c o=>x.Fz c o∨(c=x.μ id∧F o),x.S.set id b⟩
theorem gl {S:av} {id:Nat} {b0:DB} (h:S[id]? = some b0) (b:DB) (j:Nat):(S.set id b)[j]? = if j=id then some b else S[j]? := by
 have hlt:=(aJ.1 h).1
 rw[aP]
 by_cases h1:j=id
 ·subst h1; simp[hlt]
 ·rw[if_neg (Ne.symm h1),if_neg h1]
theorem rB {id:Nat} {arr:Array Value} {F:Nat→Prop} {b0 b:DB} (hR:Rel x) (h0:x.S[id]? = some b0)
  (hb:(∃ l l',b0 = .cells l∧b = .cells l')∨(∃ e s n n',b0 = .tail e s n∧b = .tail e s n'∧n≤n'∧∀ o,o<n→(x.w.setRow (x.μ id) arr).cell? ⟨x.μ id,o,none⟩=x.w.cell? ⟨x.μ id,o,none⟩)∨(∃ e s l l',b0 = .op e s l false∧b = .op e s l' false∧l.length≤l'.length)):cr x (x.upd id arr F b):=by
 have BQ:b0 ≠ .none:=by rcases hb with ⟨l,l',rfl,-⟩ | ⟨e,s,n,n',rfl,-⟩ | ⟨e,s,l,l',rfl,-⟩<;>simp
 have hne:b ≠ .none:=by rcases hb with ⟨l,l',-,rfl⟩ | ⟨e,s,n,n',-,rfl,-⟩ | ⟨e,s,l,l',-,rfl,-⟩<;>simp
 have bC:∀ j,(x.upd id arr F b).S[j]? = if j=id then some b else x.S[j]? := fun j=>gl h0 b j
 refine⟨by show _≤(x.w.setRow _ _).heap.size; rw[setRow_size]; exact ai _,⟨rfl,rfl⟩,fun c o h=>⟨.inl h,?_⟩,fun c o h => ?_,fun c hc hn => ?_,by show _≤(x.S.set _ _).length; simp,fun i l hl=>⟨rfl,?_⟩,fun i c hl hc=>⟨rfl,?_,?_⟩,fun t e s n ht => ?_,fun i hi => .inl ⟨?_,rfl⟩,fun t e s l z ht => ?_⟩
 ·show (x.w.setRow _ _).cell? _=_
  by_cases hc:c=x.μ id
  ·subst hc
   rcases hb with ⟨l,l',rfl,-⟩ | ⟨e,s,n,n',rfl,-,-,hk⟩ | ⟨e,s,l,l',rfl,-⟩
   ·exact absurd h (hR.sep id ⟨l,h0⟩ o)
   ·exact hk o (hR.ox id e s n h0 o h)
   ·obtain⟨-,-,-,-,-,-,-,k⟩:=hR.ops id e s l false h0
    exact absurd h (k rfl o)
  ·exact cell_setRow_other _ _ _ _ hc
 ·rcases h with h | ⟨rfl,-⟩
  ·exact .inl h
  ·exact .inr (.inr ⟨id,aU h0 BQ,rfl⟩)
 ·exact setRow_other _ _ _ _ fun e=>hn id (aU h0 BQ) e.symm
 ·rw[bC]
  split
  ·rename_i e
   subst e
   rw[h0] at hl
   cases hl
   rcases hb with ⟨l,l',-,rfl⟩ | ⟨e,s,n,n',h1,-⟩ | ⟨e,s,l,l',h1,-⟩
   ·exact⟨l',rfl⟩
   ·cases h1
   ·cases h1
  ·exact⟨l,hl⟩
 ·rw[bC]
  split
  ·rename_i e
   subst e
   rw[h0] at hl
   cases hl
   rcases hb with ⟨l,l',h1,-⟩ | ⟨e,s,n,n',h1,-⟩ | ⟨e,s,l,l',h1,-⟩<;>(subst h1; cases hc)
  ·exact⟨c,hl,eX hc⟩
 ·rintro rfl
  refine setRow_other _ _ _ _ fun e => ?_
  have:=hR.inj i id (aU hl (by simp)) (aU h0 BQ) e
  subst this
  rw[h0] at hl
  cases hl
  rcases hb with ⟨l,l',h1,-⟩ | ⟨e,s,n,n',h1,-⟩ | ⟨e,s,l,l',h1,-⟩<;>cases h1
 ·by_cases e1:t=id
  ·subst e1
   rw[h0] at ht
   cases ht
   rcases hb with ⟨l,l',h1,-⟩ | ⟨e,s,n,n',h1,rfl,h3,-⟩ | ⟨e,s,l,l',h1,-⟩
   ·cases h1
   ·cases h1
    exact⟨n',by rw[bC,if_pos rfl],h3,fun _=>⟨rfl,rfl⟩⟩
   ·cases h1
  ·exact⟨n,by rw[bC,if_neg e1]; exact ht,ai _,fun _=>⟨rfl,rfl⟩⟩
 ·obtain⟨c,hc,BF⟩:=hi
  rw[bC] at hc
  split at hc
  ·rename_i e; subst e; exact aU h0 BQ
  ·exact⟨c,hc,BF⟩
 ·by_cases e1:t=id
  ·subst e1
   rw[h0] at ht
   cases ht
   rcases hb with ⟨l,l',h1,-⟩ | ⟨e,s,n,n',h1,-⟩ | ⟨e,s,l,l',h1,rfl,h3⟩
   ·cases h1
   ·cases h1
   ·cases h1
    exact⟨l',false,by rw[bC,if_pos rfl],h3,by simp,fun _=>⟨rfl,rfl⟩⟩
  ·exact⟨l,z,by rw[bC,if_neg e1]; exact ht,ai _,fun e=>⟨rfl,e⟩,fun _=>⟨rfl,rfl⟩⟩
theorem yZ {id:Nat} {arr:Array Value} {F:Nat→Prop} {b0 b:DB} (hR:Rel x) (h0:x.S[id]? = some b0)
  (hb:(∃ l l',b0 = .cells l∧b = .cells l'∧(∀ o,¬ F o)∧arr.size=l'.length∧∀ j c,l'[j]? = some c→RV x c (arr.getD j undef)) ∨
   (∃ e s n n',b0 = .tail e s n∧b = .tail e s n'∧n≤n'∧(∀ o,o<n→(x.w.setRow (x.μ id) arr).cell? ⟨x.μ id,o,none⟩=x.w.cell? ⟨x.μ id,o,none⟩)∧arr.size=x.κ id*s∧n'≤arr.size∧∀ o,F o→o<n') ∨
   (∃ e s l l',b0 = .op e s l false∧b = .op e s l' false∧l.length≤l'.length∧(∀ o,¬ F o)∧arr.size=x.κ id*s∧l'.length≤arr.size∧∀ j c,l'[j]? = some c→c.bS=true∧RV x c (arr.getD j undef))):Rel (x.upd id arr F b):=by
 have mU:(∃ l l',b0 = .cells l∧b = .cells l')∨(∃ e s n n',b0 = .tail e s n∧b = .tail e s n'∧n≤n'∧∀ o,o<n→(x.w.setRow (x.μ id) arr).cell? ⟨x.μ id,o,none⟩=x.w.cell? ⟨x.μ id,o,none⟩)∨(∃ e s l l',b0 = .op e s l false∧b = .op e s l' false∧l.length≤l'.length):=by
  rcases hb with ⟨l,l',h1,h2,-⟩ | ⟨e,s,n,n',h1,h2,h3,h4,-⟩ | ⟨e,s,l,l',h1,h2,h3,-⟩
  ·exact .inl ⟨l,l',h1,h2⟩
  ·exact .inr (.inl ⟨e,s,n,n',h1,h2,h3,h4⟩)
  ·exact .inr (.inr ⟨e,s,l,l',h1,h2,h3⟩)
 have M:=rB (F:=F) hR h0 mU
 have BQ:b0 ≠ .none:=by rcases hb with ⟨l,l',rfl,-⟩ | ⟨e,s,n,n',rfl,-⟩ | ⟨e,s,l,l',rfl,-⟩<;>simp
 have bC:∀ j,(x.upd id arr F b).S[j]? = if j=id then some b else x.S[j]? := fun j=>gl h0 b j
 have hold:∃ old e,x.w.heap[x.μ id]? = some (.cells old e (0,0))∧(∀ e' s n,b0 = .tail e' s n→e=e'∧x.κ id≤maxLen)∧∀ e' s l z,b0 = .op e' s l z→e=e'∧x.κ id≤maxLen:=by
  rcases hb with ⟨l,l',rfl,-⟩ | ⟨e,s,n,n',rfl,-⟩ | ⟨e,s,l,l',rfl,-⟩
  ·obtain⟨a,e,h1,-⟩:=hR.cells id l h0
   exact⟨a,e,h1,by simp,by simp⟩
  ·obtain⟨a,h1,-,-,h4⟩:=hR.en id e s n h0
   exact⟨a,e,h1,fun e' s' n' h=>by cases h; exact⟨rfl,h4⟩,by simp⟩
  ·obtain⟨a,h1,-,-,h4,-⟩:=hR.ops id e s l false h0
   exact⟨a,e,h1,by simp,fun e' s' l' z h=>by cases h; exact⟨rfl,h4⟩⟩
 obtain⟨old,e0,hh,he0,he1⟩:=hold
 have wD:(x.w.setRow (x.μ id) arr).heap[x.μ id]? = some (.cells arr e0 (0,0)):=setRow_heap _ _ _ _ _ _ hh
 have nj:∀ i,Live (x.upd id arr F b).S i→Live x.S i:=fun i hi=>by
  rcases M.live i hi with ⟨h,-⟩ | h
  ·exact h
  ·obtain⟨c,hc,BF⟩:=hi
   rw[bC] at hc
   split at hc
   ·rename_i e; subst e; exact aU h0 BQ
   ·exact⟨c,hc,BF⟩
 have Dx:∀ i,i≠id→Live x.S i→(x.w.setRow (x.μ id) arr).heap[x.μ i]? = x.w.heap[x.μ i]? := fun i hi hl=>setRow_other _ _ _ _ fun e=>hi (hR.inj i id hl (aU h0 BQ) e)
 constructor
 ·intro i l hl
  rw[bC] at hl
  by_cases h:i=id
  ·subst h
   rw[if_pos rfl] at hl
   cases hl
   rcases hb with ⟨l0,l',h1,h2,h3,h4,h5⟩ | ⟨e,s,n,n',h1,h2,-⟩ | ⟨e,s,l,l',h1,h2,-⟩
   ·cases h2
    exact⟨arr,e0,wD,h4,fun j c hc=>(h5 j c hc).mono M⟩
   ·cases h2
   ·cases h2
  ·rw[if_neg h] at hl
   obtain⟨a,e,h1,h2,h3⟩:=hR.cells i l hl
   exact⟨a,e,(Dx i h (aU hl (by simp))).trans h1,h2,fun j c hc=>(h3 j c hc).mono M⟩
 ·intro i e s n hl
  rw[bC] at hl
  by_cases h:i=id
  ·subst h
   rw[if_pos rfl] at hl
   cases hl
   rcases hb with ⟨l0,l',h1,h2,-⟩ | ⟨e',s',m,m',h1,h2,h3,h4,h5,h6,h7⟩ | ⟨e,s,l,l',h1,h2,-⟩
   ·cases h2
   ·cases h2
    obtain⟨k1,k2⟩:=he0 _ _ _ h1
    subst k1
    exact⟨arr,wD,h5,h6,k2⟩
   ·cases h2
  ·rw[if_neg h] at hl
   obtain⟨a,h1,h2⟩:=hR.en i e s n hl
   exact⟨a,(Dx i h (aU hl (by simp))).trans h1,h2⟩
 ·intro i c hl hc
  rw[bC] at hl
  by_cases h:i=id
  ·subst h
   rw[if_pos rfl] at hl
   cases hl
   rcases hb with ⟨l0,l',h1,h2,-⟩ | ⟨e',s',m,m',h1,h2,-⟩ | ⟨e,s,l,l',h1,h2,-⟩<;>(subst h2; cases hc)
  ·rw[if_neg h] at hl
   obtain⟨o,h1,h2⟩:=hR.eB i c hl hc
   exact⟨o,(Dx i h (aU hl (fR hc))).trans h1,h2.mono M⟩
 ·exact fun i j hi hj he=>hR.inj i j (nj i hi) (nj j hj) he
 ·intro c o h
  rcases h with h | ⟨rfl,h⟩
  ·obtain⟨v,hv⟩:=hR.yP c o h
   exact⟨v,(M.fz c o h).2.trans hv⟩
  ·rcases hb with ⟨l0,l',-,-,h3,-⟩ | ⟨e',s',m,m',-,-,-,-,h5,h6,h7⟩ | ⟨e,s,l,l',-,-,-,h3,-⟩
   ·exact absurd h (h3 o)
   ·have:=h7 o h
    refine⟨arr[o]'(by omega),?_⟩
    show (x.w.setRow _ _).cell? _=_
    rw[cell_setRow_same _ _ _ _ _ _ _ hh]
    exact bQ _
   ·exact absurd h (h3 o)
 ·rintro i ⟨l,hl⟩ o ho
  rw[bC] at hl
  by_cases h:i=id
  ·subst h
   rw[if_pos rfl] at hl
   cases hl
   rcases hb with ⟨l0,l',h1,h2,h3,-⟩ | ⟨e',s',m,m',h1,h2,-⟩ | ⟨e,s,l,l',h1,h2,-⟩
   ·subst h1
    rcases ho with ho | ⟨-,ho⟩
    ·exact hR.sep i ⟨l0,h0⟩ o ho
    ·exact h3 o ho
   ·cases h2
   ·cases h2
  ·rw[if_neg h] at hl
   rcases ho with ho | ⟨ho,-⟩
   ·exact hR.sep i ⟨l,hl⟩ o ho
   ·exact h (hR.inj i id (aU hl (by simp)) (aU h0 BQ) ho)
 ·intro i e s n hl o ho
  rw[bC] at hl
  by_cases h:i=id
  ·subst h
   rw[if_pos rfl] at hl
   cases hl
   rcases hb with ⟨l0,l',h1,h2,-⟩ | ⟨e',s',m,m',h1,h2,h3,-,-,-,h7⟩ | ⟨e,s,l,l',h1,h2,-⟩
   ·cases h2
   ·cases h2
    subst h1
    rcases ho with ho | ⟨-,ho⟩
    ·exact cI (hR.ox i _ _ _ h0 o ho) h3
    ·exact h7 o ho
   ·cases h2
  ·rw[if_neg h] at hl
   rcases ho with ho | ⟨ho,-⟩
   ·exact hR.ox i e s n hl o ho
   ·exact(h (hR.inj i id (aU hl (by simp)) (aU h0 BQ) ho)).elim
 ·intro i e s l z hl
  rw[bC] at hl
  by_cases h:i=id
  ·subst h
   rw[if_pos rfl] at hl
   cases hl
   rcases hb with ⟨l0,l',h1,h2,-⟩ | ⟨e',s',m,m',h1,h2,-⟩ | ⟨e',s',l0,l',h1,h2,h3,h4,h5,h6,h7⟩
   ·cases h2
   ·cases h2
   ·cases h2
    obtain⟨k1,k2⟩:=he1 _ _ _ _ h1
    subst k1
    refine⟨arr,wD,h5,h6,k2,fun j c hc=>⟨(h7 j c hc).1,(h7 j c hc).2.mono M⟩,by simp,fun _ o ho => ?_⟩
    rcases ho with ho | ⟨-,ho⟩
    ·subst h1
     obtain⟨-,-,-,-,-,-,-,k⟩:=hR.ops i _ _ _ _ h0
     exact k rfl o ho
    ·exact h4 o ho
  ·rw[if_neg h] at hl
   obtain⟨a,h1,h2,h3,h4,h5,h6,h7⟩:=hR.ops i e s l z hl
   refine⟨a,(Dx i h (aU hl (by simp))).trans h1,h2,h3,h4,fun j c hc=>⟨(h5 j c hc).1,(h5 j c hc).2.mono M⟩,fun hz j hj => .inl (h6 hz j hj),fun hz o ho => ?_⟩
   rcases ho with ho | ⟨ho,-⟩
   ·exact h7 hz o ho
   ·exact h (hR.inj i id (aU hl (by simp)) (aU h0 BQ) ho)
def Cx.jy (x:Cx) (w':World) (t k:Nat) (F:Nat→Prop) (b:DB):Cx :=
 ⟨w',fun i=>if i=t then x.w.heap.size else x.μ i,fun i=>if i=t then k else x.κ i,fun c o=>x.Fz c o∨(c=x.w.heap.size∧F o),x.S.set t b⟩
theorem Bg {t k:Nat} {F:Nat→Prop} {ob:Obj} {e:TypeId} {s n n':Nat} (hR:Rel x) (h0:x.S[t]? = some (.tail e s n)) (hp:nk x.w w' ob) (hlt:n<n'):cr x (x.jy w' t k F (.tail e s n')):=by
 have bC:∀ j,(x.jy w' t k F (.tail e s n')).S[j]? = if j=t then some (.tail e s n') else x.S[j]? := fun j=>gl h0 _ j
 refine⟨by show _≤w'.heap.size; rw[hp.heap]; simp,hp.env,fun c o h=>⟨.inl h,cell_of_block (hp.lt (hR.tn h)) o⟩,fun c o h => ?_,fun c hc _=>hp.lt hc,by show _≤(x.S.set _ _).length; simp,fun i l hl => ?_,fun i c hl hc => ?_,fun i e1 s1 n1 hl => ?_,fun i hi => ?_,fun i e1 s1 l z hl => ?_⟩
 ·rcases h with h | h
  ·exact .inl h
  ·exact .inr (.inl (by omega))
 ·have hne:i≠t:=by rintro rfl; rw[h0] at hl; cases hl
  exact⟨if_neg hne,l,by rw[bC,if_neg hne]; exact hl⟩
 ·have hne:i≠t:=by rintro rfl; rw[h0] at hl; cases hl; cases hc
  exact⟨if_neg hne,⟨c,by rw[bC,if_neg hne]; exact hl,eX hc⟩,fun _=>by
   obtain⟨o,h1,-⟩:=hR.eB i c hl hc
   exact hp.lt (b9 h1)⟩
 ·by_cases hne:i=t
  ·subst hne
   rw[h0] at hl
   cases hl
   exact⟨n',by rw[bC,if_pos rfl],by omega,fun h=>by omega⟩
  ·exact⟨n1,by rw[bC,if_neg hne]; exact hl,ai _,fun _=>⟨if_neg hne,if_neg hne⟩⟩
 ·by_cases hne:i=t
  ·right
   subst hne
   show _≤(if _ then _ else _)
   rw[if_pos rfl]
   exact ai _
  ·left
   obtain⟨c,hc,BF⟩:=hi
   rw[bC,if_neg hne] at hc
   exact⟨⟨c,hc,BF⟩,if_neg hne⟩
 ·have hne:i≠t:=by rintro rfl; rw[h0] at hl; cases hl
  exact⟨l,z,by rw[bC,if_neg hne]; exact hl,ai _,fun e=>⟨rfl,e⟩,fun _=>⟨if_neg hne,if_neg hne⟩⟩
theorem L9 {t k:Nat} {F:Nat→Prop} {e:TypeId} {s n n':Nat} {arr:Array Value} (hR:Rel x) (h0:x.S[t]? = some (.tail e s n)) (hp:nk x.w w' (.cells arr e (0,0))) (hlt:n<n')
  (hs:arr.size=k*s) (hn:n'≤arr.size) (hk:k≤maxLen) (hF:∀ o,F o→o<n'):Rel (x.jy w' t k F (.tail e s n')):=by
 have M:=Bg (k:=k) (F:=F) hR h0 hp hlt
 have bC:∀ j,(x.jy w' t k F (.tail e s n')).S[j]? = if j=t then some (.tail e s n') else x.S[j]? := fun j=>gl h0 _ j
 have hμ:∀ i,i≠t→(x.jy w' t k F (.tail e s n')).μ i=x.μ i:=fun i h=>if_neg h
 have hκ:∀ i,i≠t→(x.jy w' t k F (.tail e s n')).κ i=x.κ i:=fun i h=>if_neg h
 have hμn:(x.jy w' t k F (.tail e s n')).μ t=x.w.heap.size:=if_pos rfl
 have hκn:(x.jy w' t k F (.tail e s n')).κ t=k:=if_pos rfl
 have nj:∀ i,Live (x.jy w' t k F (.tail e s n')).S i→Live x.S i:=by
  rintro i ⟨c,hc,BF⟩
  rw[bC] at hc
  split at hc
  ·rename_i h; subst h; exact aU h0 (by simp)
  ·exact⟨c,hc,BF⟩
 constructor
 ·intro i l hl
  rw[bC] at hl
  by_cases h:i=t
  ·rw[if_pos h] at hl; cases hl
  ·rw[if_neg h] at hl
   obtain⟨a,e,h1,h2,h3⟩:=hR.cells i l hl
   rw[hμ i h]
   exact⟨a,e,(hp.lt (b9 h1)).trans h1,h2,fun j c hc=>(h3 j c hc).mono M⟩
 ·intro i e1 s1 n1 hl
  rw[bC] at hl
  by_cases h:i=t
  ·subst h
   rw[if_pos rfl] at hl
   cases hl
   rw[hμn,hκn]
   exact⟨arr,hp.new,hs,hn,hk⟩
  ·rw[if_neg h] at hl
   obtain⟨a,h1,h2⟩:=hR.en i e1 s1 n1 hl
   rw[hμ i h,hκ i h]
   exact⟨a,(hp.lt (b9 h1)).trans h1,h2⟩
 ·intro i c hl hc
  rw[bC] at hl
  by_cases h:i=t
  ·rw[if_pos h] at hl; cases hl; cases hc
  ·rw[if_neg h] at hl
   obtain⟨o,h1,h2⟩:=hR.eB i c hl hc
   rw[hμ i h]
   exact⟨o,(hp.lt (b9 h1)).trans h1,h2.mono M⟩
 ·intro i j hi hj he
  by_cases h1:i=t
  ·by_cases h2:j=t
   ·rw[h1,h2]
   ·rw[h1,hμn,hμ j h2] at he
    have:=hR.gK (nj j hj)
    omega
  ·by_cases h2:j=t
   ·rw[h2,hμn,hμ i h1] at he
    have:=hR.gK (nj i hi)
    omega
   ·rw[hμ i h1,hμ j h2] at he
    exact hR.inj i j (nj i hi) (nj j hj) he
 ·intro c o h
  rcases h with h | ⟨rfl,h⟩
  ·obtain⟨v,hv⟩:=hR.yP c o h
   exact⟨v,(M.fz c o h).2.trans hv⟩
  ·have:=hF o h
   refine⟨arr[o]'(by omega),?_⟩
   show w'.cell? _=_
   simp only[World.cell?,hp.new]
   exact bQ _
 ·rintro i ⟨l,hl⟩ o ho
  rw[bC] at hl
  by_cases h:i=t
  ·rw[if_pos h] at hl; cases hl
  ·rw[if_neg h] at hl
   rw[hμ i h] at ho
   rcases ho with ho | ⟨ho,-⟩
   ·exact hR.sep i ⟨l,hl⟩ o ho
   ·have:=hR.gK (aU hl (by simp)); omega
 ·intro i e1 s1 n1 hl o ho
  rw[bC] at hl
  by_cases h:i=t
  ·subst h
   rw[if_pos rfl] at hl
   cases hl
   rw[hμn] at ho
   rcases ho with ho | ⟨-,ho⟩
   ·have:=hR.tn ho; omega
   ·exact hF o ho
  ·rw[if_neg h] at hl
   rw[hμ i h] at ho
   rcases ho with ho | ⟨ho,-⟩
   ·exact hR.ox i e1 s1 n1 hl o ho
   ·have:=hR.gK (aU hl (by simp)); omega
 ·intro i e1 s1 l z hl
  rw[bC] at hl
  by_cases h:i=t
  ·rw[if_pos h] at hl; cases hl
  ·rw[if_neg h] at hl
   obtain⟨a,h1,h2,h3,h4,h5,h6,h7⟩:=hR.ops i e1 s1 l z hl
   rw[hμ i h,hκ i h]
   refine⟨a,(hp.lt (b9 h1)).trans h1,h2,h3,h4,fun j c hc=>⟨(h5 j c hc).1,(h5 j c hc).2.mono M⟩,fun hz j hj => .inl (h6 hz j hj),fun hz o ho => ?_⟩
   rcases ho with ho | ⟨ho,-⟩
   ·exact h7 hz o ho
   ·have:=hR.gK (aU hl (by simp)); omega
theorem CL {t k:Nat} {ob:Obj} {e:TypeId} {s:Nat} {l l':List DV} (hR:Rel x) (h0:x.S[t]? = some (.op e s l false)) (hp:nk x.w w' ob) (hlt:l.length<l'.length):cr x (x.jy w' t k (fun _=>False) (.op e s l' false)):=by
 have bC:∀ j,(x.jy w' t k (fun _=>False) (.op e s l' false)).S[j]? = if j=t then some (.op e s l' false) else x.S[j]? := fun j=>gl h0 _ j
 refine⟨by show _≤w'.heap.size; rw[hp.heap]; simp,hp.env,fun c o h=>⟨.inl h,cell_of_block (hp.lt (hR.tn h)) o⟩,fun c o h => ?_,fun c hc _=>hp.lt hc,by show _≤(x.S.set _ _).length; simp,fun i l hl => ?_,fun i c hl hc => ?_,fun i e1 s1 n1 hl => ?_,fun i hi => ?_,fun i e1 s1 l1 z hl => ?_⟩
 ·rcases h with h | h
  ·exact .inl h
  ·exact h.2.elim
 ·have hne:i≠t:=by rintro rfl; rw[h0] at hl; cases hl
  exact⟨if_neg hne,l,by rw[bC,if_neg hne]; exact hl⟩
 ·have hne:i≠t:=by rintro rfl; rw[h0] at hl; cases hl; cases hc
  exact⟨if_neg hne,⟨c,by rw[bC,if_neg hne]; exact hl,eX hc⟩,fun _=>by
   obtain⟨o,h1,-⟩:=hR.eB i c hl hc
   exact hp.lt (b9 h1)⟩
 ·have hne:i≠t:=by rintro rfl; rw[h0] at hl; cases hl
  exact⟨n1,by rw[bC,if_neg hne]; exact hl,ai _,fun _=>⟨if_neg hne,if_neg hne⟩⟩
 ·by_cases hne:i=t
  ·right
   subst hne
   show _≤(if _ then _ else _)
   rw[if_pos rfl]
   exact ai _
  ·left
   obtain⟨c,hc,BF⟩:=hi
   rw[bC,if_neg hne] at hc
   exact⟨⟨c,hc,BF⟩,if_neg hne⟩
 ·by_cases hne:i=t
  ·subst hne
   rw[h0] at hl
   cases hl
   exact⟨l',false,by rw[bC,if_pos rfl],by omega,by simp,fun h=>by omega⟩
  ·exact⟨l1,z,by rw[bC,if_neg hne]; exact hl,ai _,fun e=>⟨rfl,e⟩,fun _=>⟨if_neg hne,if_neg hne⟩⟩
theorem Qt {t k:Nat} {e:TypeId} {s:Nat} {l l':List DV} {arr:Array Value} (hR:Rel x) (h0:x.S[t]? = some (.op e s l false)) (hp:nk x.w w' (.cells arr e (0,0))) (hlt:l.length<l'.length)
  (hs:arr.size=k*s) (hn:l'.length≤arr.size) (hk:k≤maxLen) (hc:∀ j c,l'[j]? = some c→c.bS=true∧RV x c (arr.getD j undef)):Rel (x.jy w' t k (fun _=>False) (.op e s l' false)):=by
 have M:=CL (k:=k) hR h0 hp hlt
 have bC:∀ j,(x.jy w' t k (fun _=>False) (.op e s l' false)).S[j]? = if j=t then some (.op e s l' false) else x.S[j]? := fun j=>gl h0 _ j
 have hμ:∀ i,i≠t→(x.jy w' t k (fun _=>False) (.op e s l' false)).μ i=x.μ i:=fun i h=>if_neg h
 have hκ:∀ i,i≠t→(x.jy w' t k (fun _=>False) (.op e s l' false)).κ i=x.κ i:=fun i h=>if_neg h
 have hμn:(x.jy w' t k (fun _=>False) (.op e s l' false)).μ t=x.w.heap.size:=if_pos rfl
 have hκn:(x.jy w' t k (fun _=>False) (.op e s l' false)).κ t=k:=if_pos rfl
 have HH:∀ c o,(x.jy w' t k (fun _=>False) (.op e s l' false)).Fz c o→x.Fz c o:=fun c o h=>h.elim id fun h=>h.2.elim
 have nj:∀ i,Live (x.jy w' t k (fun _=>False) (.op e s l' false)).S i→Live x.S i:=by
  rintro i ⟨c,hc,BF⟩
  rw[bC] at hc
  split at hc
  ·rename_i h; subst h; exact aU h0 (by simp)
  ·exact⟨c,hc,BF⟩
 constructor
 ·intro i l1 hl
  rw[bC] at hl
  by_cases h:i=t
  ·rw[if_pos h] at hl; cases hl
  ·rw[if_neg h] at hl
   obtain⟨a,e,h1,h2,h3⟩:=hR.cells i l1 hl
   rw[hμ i h]
   exact⟨a,e,(hp.lt (b9 h1)).trans h1,h2,fun j c hc=>(h3 j c hc).mono M⟩
 ·intro i e1 s1 n1 hl
  rw[bC] at hl
  by_cases h:i=t
  ·rw[if_pos h] at hl; cases hl
  ·rw[if_neg h] at hl
   obtain⟨a,h1,h2⟩:=hR.en i e1 s1 n1 hl
   rw[hμ i h,hκ i h]
   exact⟨a,(hp.lt (b9 h1)).trans h1,h2⟩
 ·intro i c hl hc
  rw[bC] at hl
  by_cases h:i=t
  ·rw[if_pos h] at hl; cases hl; cases hc
  ·rw[if_neg h] at hl
   obtain⟨o,h1,h2⟩:=hR.eB i c hl hc
   rw[hμ i h]
   exact⟨o,(hp.lt (b9 h1)).trans h1,h2.mono M⟩
 ·intro i j hi hj he
  by_cases h1:i=t
  ·by_cases h2:j=t
   ·rw[h1,h2]
   ·rw[h1,hμn,hμ j h2] at he
    have:=hR.gK (nj j hj)
    omega
  ·by_cases h2:j=t
   ·rw[h2,hμn,hμ i h1] at he
    have:=hR.gK (nj i hi)
    omega
   ·rw[hμ i h1,hμ j h2] at he
    exact hR.inj i j (nj i hi) (nj j hj) he
 ·intro c o h
  have h:=HH c o h
  obtain⟨v,hv⟩:=hR.yP c o h
  exact⟨v,(M.fz c o h).2.trans hv⟩
 ·rintro i ⟨l1,hl⟩ o ho
  rw[bC] at hl
  by_cases h:i=t
  ·rw[if_pos h] at hl; cases hl
  ·rw[if_neg h] at hl
   rw[hμ i h] at ho
   exact hR.sep i ⟨l1,hl⟩ o (HH _ _ ho)
 ·intro i e1 s1 n1 hl o ho
  rw[bC] at hl
  by_cases h:i=t
  ·rw[if_pos h] at hl; cases hl
  ·rw[if_neg h] at hl
   rw[hμ i h] at ho
   exact hR.ox i e1 s1 n1 hl o (HH _ _ ho)
 ·intro i e1 s1 l1 z hl
  rw[bC] at hl
  by_cases h:i=t
  ·subst h
   rw[if_pos rfl] at hl
   cases hl
   rw[hμn,hκn]
   refine⟨arr,hp.new,hs,hn,hk,fun j c h=>⟨(hc j c h).1,(hc j c h).2.mono M⟩,by simp,fun _ o ho => ?_⟩
   have:=hR.tn (HH _ _ ho)
   omega
  ·rw[if_neg h] at hl
   obtain⟨a,h1,h2,h3,h4,h5,h6,h7⟩:=hR.ops i e1 s1 l1 z hl
   rw[hμ i h,hκ i h]
   exact⟨a,(hp.lt (b9 h1)).trans h1,h2,h3,h4,fun j c hc=>⟨(h5 j c hc).1,(h5 j c hc).2.mono M⟩,fun hz j hj => .inl (h6 hz j hj),fun hz o ho=>h7 hz o (HH _ _ ho)⟩
def Cx.close (x:Cx) (id:Nat) (e:TypeId) (s:Nat) (l:List DV):Cx:=⟨x.w,x.μ,x.κ,fun c o=>x.Fz c o∨(c=x.μ id∧o<l.length),x.S.set id (.op e s l true)⟩
theorem Bh {id:Nat} {e:TypeId} {s:Nat} {l:List DV} (h0:x.S[id]? = some (.op e s l false)):cr x (x.close id e s l):=by
 have bC:∀ j,(x.close id e s l).S[j]? = if j=id then some (.op e s l true) else x.S[j]? := fun j=>gl h0 _ j
 have hne:∀ {i c},x.S[i]? = some c→(∀ e s l z,c≠DB.op e s l z)→(x.close id e s l).S[i]? = some c:=fun {i c} h hc=>by
  rw[bC,if_neg]
  ·exact h
  ·rintro rfl
   rw[h0] at h
   cases h
   exact hc _ _ _ _ rfl
 refine⟨ai _,⟨rfl,rfl⟩,fun c o h=>⟨.inl h,rfl⟩,fun c o h => ?_,fun c hc _=>rfl,by show _≤(x.S.set _ _).length; simp,fun i l hl=>⟨rfl,l,hne hl (by simp)⟩,fun i c hl hc=>⟨rfl,⟨c,hne hl (by rintro _ _ _ _ rfl; cases hc),eX hc⟩,fun _=>rfl⟩,fun i e1 s1 n1 hl=>⟨n1,hne hl (by simp),ai _,fun _=>⟨rfl,rfl⟩⟩,fun i hi => .inl ⟨?_,rfl⟩,fun i e1 s1 l1 z hl => ?_⟩
 ·rcases h with h | ⟨rfl,-⟩
  ·exact .inl h
  ·exact .inr (.inr ⟨id,aU h0 (by simp),rfl⟩)
 ·obtain⟨c,hc,BF⟩:=hi
  rw[bC] at hc
  split at hc
  ·rename_i e; subst e; exact aU h0 (by simp)
  ·exact⟨c,hc,BF⟩
 ·by_cases h:i=id
  ·subst h
   rw[h0] at hl
   cases hl
   exact⟨l,true,by rw[bC,if_pos rfl],ai _,by simp,fun _=>⟨rfl,rfl⟩⟩
  ·exact⟨l1,z,by rw[bC,if_neg h]; exact hl,ai _,fun e=>⟨rfl,e⟩,fun _=>⟨rfl,rfl⟩⟩
theorem Mc {id:Nat} {e:TypeId} {s:Nat} {l:List DV} (hR:Rel x) (h0:x.S[id]? = some (.op e s l false)):Rel (x.close id e s l):=by
 have M:=Bh (x:=x) h0
 have bC:∀ j,(x.close id e s l).S[j]? = if j=id then some (.op e s l true) else x.S[j]? := fun j=>gl h0 _ j
 have hgo:∀ {i c},(x.close id e s l).S[i]? = some c→(∀ e s l z,c≠DB.op e s l z)→x.S[i]? = some c∧i≠id:=fun {i c} h hc=>by
  rw[bC] at h
  split at h
  ·cases h; exact absurd rfl (hc _ _ _ _)
  ·exact⟨h,‹_›⟩
 have nj:∀ i,Live (x.close id e s l).S i→Live x.S i:=fun i hi=>by
  obtain⟨c,hc,BF⟩:=hi
  rw[bC] at hc
  split at hc
  ·rename_i e; subst e; exact aU h0 (by simp)
  ·exact⟨c,hc,BF⟩
 obtain⟨arr,a1,a2,a3,a4,a5,-,-⟩:=hR.ops id e s l false h0
 constructor
 ·intro i l1 hl
  obtain⟨hl,-⟩:=hgo hl (by simp)
  obtain⟨a,e,h1,h2,h3⟩:=hR.cells i l1 hl
  exact⟨a,e,h1,h2,fun j c hc=>(h3 j c hc).mono M⟩
 ·intro i e1 s1 n1 hl
  obtain⟨hl,-⟩:=hgo hl (by simp)
  exact hR.en i e1 s1 n1 hl
 ·intro i c hl hc
  obtain⟨hl,-⟩:=hgo hl (by rintro _ _ _ _ rfl; cases hc)
  obtain⟨o,h1,h2⟩:=hR.eB i c hl hc
  exact⟨o,h1,h2.mono M⟩
 ·exact fun i j hi hj he=>hR.inj i j (nj i hi) (nj j hj) he
 ·intro c o h
  rcases h with h | ⟨rfl,h⟩
  ·exact hR.yP c o h
  ·exact⟨arr[o]'(by omega),by show x.w.cell? _=_; simp only[World.cell?,a1]; exact bQ _⟩
 ·rintro i ⟨l1,hl⟩ o ho
  obtain⟨hl,hi⟩:=hgo hl (by simp)
  rcases ho with ho | ⟨ho,-⟩
  ·exact hR.sep i ⟨l1,hl⟩ o ho
  ·exact hi (hR.inj i id (aU hl (by simp)) (aU h0 (by simp)) ho)
 ·intro i e1 s1 n1 hl o ho
  obtain⟨hl,hi⟩:=hgo hl (by simp)
  rcases ho with ho | ⟨ho,-⟩
  ·exact hR.ox i e1 s1 n1 hl o ho
  ·exact(hi (hR.inj i id (aU hl (by simp)) (aU h0 (by simp)) ho)).elim
 ·intro i e1 s1 l1 z hl
  rw[bC] at hl
  by_cases h:i=id
  ·subst h
   rw[if_pos rfl] at hl
   cases hl
   exact⟨arr,a1,a2,a3,a4,fun j c hc=>⟨(a5 j c hc).1,(a5 j c hc).2.mono M⟩,fun _ j hj => .inr ⟨rfl,hj⟩,by simp⟩
  ·rw[if_neg h] at hl
   obtain⟨a,h1,h2,h3,h4,h5,h6,h7⟩:=hR.ops i e1 s1 l1 z hl
   refine⟨a,h1,h2,h3,h4,fun j c hc=>⟨(h5 j c hc).1,(h5 j c hc).2.mono M⟩,fun hz j hj => .inl (h6 hz j hj),fun hz o ho => ?_⟩
   rcases ho with ho | ⟨ho,-⟩
   ·exact h7 hz o ho
   ·exact h (hR.inj i id (aU hl (by simp)) (aU h0 (by simp)) ho)
def bZ (w:World) (r:Nat) (o:Obj):World:={ w with heap:=w.heap.setIfInBounds r o }
theorem ga (w:World) (r:Nat) (o:Obj) {b:Nat} (h:b≠r):(bZ w r o).heap[b]? = w.heap[b]? := by
 simp[bZ,Ne.symm h]
theorem vU (w:World) (r:Nat) (o o0:Obj) (h:w.heap[r]? = some o0):(bZ w r o).heap[r]? = some o:=by
 have:=b9 h
 simp[bZ,this]
theorem MA {b:DB} {o:Obj} (hb:b.isObj=true) (h:qQ x b o):∀ arr e fr,o ≠ .cells arr e fr:=by
 rintro arr e fr rfl
 cases b<;>simp_all [DB.isObj,qQ]
theorem Rel.Pu (hR:Rel x) {id:Nat} {b:DB} (h0:x.S[id]? = some b) (hb:b.isObj=true) (o:Nat):¬ x.Fz (x.μ id) o:=by
 intro hf
 obtain⟨ob,h1,h2⟩:=hR.eB id b h0 hb
 obtain⟨v,hv⟩:=hR.yP _ _ hf
 have:=MA hb h2
 unfold World.cell? at hv
 simp only[h1] at hv
 cases ob<;>first | (exact this _ _ _ rfl) | simp at hv
def Cx.tL (x:Cx) (id:Nat) (o:Obj) (b:DB):Cx:=⟨bZ x.w (x.μ id) o,x.μ,x.κ,x.Fz,x.S.set id b⟩
theorem xl {id:Nat} {o:Obj} {b0 b:DB} (hR:Rel x) (h0:x.S[id]? = some b0) (hl:b0.like b) (hd:b0 ≠ .defer):cr x (x.tL id o b):=by
 have Fc:=(rD hl).1
 have bC:∀ j,(x.tL id o b).S[j]? = if j=id then some b else x.S[j]? := fun j=>gl h0 b j
 refine⟨by show _≤(bZ _ _ _).heap.size; simp[bZ],⟨rfl,rfl⟩,fun c p h=>⟨h,cell_of_block (ga _ _ _ ?_) p⟩,fun c p h => .inl h,fun c hc hn=>ga _ _ _ fun e=>hn id (aU h0 (fR Fc)) e.symm,by show _≤(x.S.set _ _).length; simp,fun i l js=>⟨rfl,l,?_⟩,fun i c js hc=>⟨rfl,?_,fun Bw => ?_⟩,fun t e s n ht=>⟨n,?_,ai _,fun _=>⟨rfl,rfl⟩⟩,fun i hi => .inl ⟨?_,rfl⟩,fun t e s l z ht=>⟨l,z,?_,ai _,fun e=>⟨rfl,e⟩,fun _=>⟨rfl,rfl⟩⟩⟩
 ·rintro rfl
  exact hR.Pu h0 Fc p h
 ·rw[bC,if_neg (by rintro rfl; rw[h0] at js; cases js; cases Fc)]
  exact js
 ·rw[bC]
  split
  ·rename_i e
   subst e
   rw[h0] at js
   cases js
   exact⟨b,rfl,hl⟩
  ·exact⟨c,js,eX hc⟩
 ·subst Bw
  refine ga _ _ _ fun e => ?_
  have:=hR.inj i id (aU js (by simp)) (aU h0 (fR Fc)) e
  subst this
  rw[h0] at js
  cases js
  exact hd rfl
 ·rw[bC,if_neg (by rintro rfl; rw[h0] at ht; cases ht; cases Fc)]
  exact ht
 ·obtain⟨c,hc,BF⟩:=hi
  rw[bC] at hc
  split at hc
  ·rename_i e; subst e; exact aU h0 (fR Fc)
  ·exact⟨c,hc,BF⟩
 ·rw[bC,if_neg (by rintro rfl; rw[h0] at ht; cases ht; cases Fc)]
  exact ht
theorem F4 {id:Nat} {o:Obj} {b0 b:DB} (hR:Rel x) (h0:x.S[id]? = some b0) (hl:b0.like b) (hd:b0 ≠ .defer) (ho:qQ (x.tL id o b) b o):Rel (x.tL id o b):=by
 have M:=xl (o:=o) hR h0 hl hd
 have Fc:=(rD hl).1
 have hb:=(rD hl).2
 have bC:∀ j,(x.tL id o b).S[j]? = if j=id then some b else x.S[j]? := fun j=>gl h0 b j
 obtain⟨ob,hob,-⟩:=hR.eB id b0 h0 Fc
 have nj:∀ i,Live (x.tL id o b).S i→Live x.S i:=fun i ⟨c,hc,BF⟩=>by
  rw[bC] at hc
  split at hc
  ·rename_i e; subst e; exact aU h0 (fR Fc)
  ·exact⟨c,hc,BF⟩
 have Dx:∀ i,i≠id→Live x.S i→(bZ x.w (x.μ id) o).heap[x.μ i]? = x.w.heap[x.μ i]? := fun i hi wz=>ga _ _ _ fun e=>hi (hR.inj i id wz (aU h0 (fR Fc)) e)
 constructor
 ·intro i l js
  rw[bC] at js
  by_cases h:i=id
  ·rw[if_pos h] at js; cases js; cases hb
  ·rw[if_neg h] at js
   obtain⟨a,e,h1,h2,h3⟩:=hR.cells i l js
   exact⟨a,e,(Dx i h (aU js (by simp))).trans h1,h2,fun j c hc=>(h3 j c hc).mono M⟩
 ·intro i e s n js
  rw[bC] at js
  by_cases h:i=id
  ·rw[if_pos h] at js; cases js; cases hb
  ·rw[if_neg h] at js
   obtain⟨a,h1,h2⟩:=hR.en i e s n js
   exact⟨a,(Dx i h (aU js (by simp))).trans h1,h2⟩
 ·intro i c js hc
  rw[bC] at js
  by_cases h:i=id
  ·subst h
   rw[if_pos rfl] at js
   cases js
   exact⟨o,vU _ _ _ _ hob,ho⟩
  ·rw[if_neg h] at js
   obtain⟨o',h1,h2⟩:=hR.eB i c js hc
   exact⟨o',(Dx i h (aU js (fR hc))).trans h1,h2.mono M⟩
 ·exact fun i j hi hj he=>hR.inj i j (nj i hi) (nj j hj) he
 ·intro c p h
  obtain⟨v,hv⟩:=hR.yP c p h
  exact⟨v,(M.fz c p h).2.trans hv⟩
 ·rintro i ⟨l,js⟩ p hp
  rw[bC] at js
  by_cases h:i=id
  ·rw[if_pos h] at js; cases js; cases hb
  ·rw[if_neg h] at js
   exact hR.sep i ⟨l,js⟩ p hp
 ·intro i e s n js p hp
  rw[bC] at js
  by_cases h:i=id
  ·rw[if_pos h] at js; cases js; cases hb
  ·rw[if_neg h] at js
   exact hR.ox i e s n js p hp
 ·intro i e s l z js
  rw[bC] at js
  by_cases h:i=id
  ·rw[if_pos h] at js; cases js; cases hb
  ·rw[if_neg h] at js
   obtain⟨a,h1,h2,h3,h4,h5,h6⟩:=hR.ops i e s l z js
   exact⟨a,(Dx i h (aU js (by simp))).trans h1,h2,h3,h4,fun j c hc=>⟨(h5 j c hc).1,(h5 j c hc).2.mono M⟩,h6⟩
theorem jM {r:Nat} {o o0:Obj} {w:World} (h:w.heap[r]? = some o0) (hn:∀ arr e fr,o0 ≠ .cells arr e fr):(setObj r o).run P w = .ok () (bZ w r o):=by
 simp only[setObj,Sem.run,h]
 cases o0<;>first | rfl | exact absurd rfl (hn _ _ _)
theorem iN {r:Nat} {o0:Obj} {w:World} (h:w.heap[r]? = some o0) (hn:∀ arr e fr,o0 ≠ .cells arr e fr):(getObj r).run P w = .ok o0 w:=by
 unfold getObj Sem.run
 rw[h]
 cases o0<;>first | rfl | exact absurd rfl (hn _ _ _)
end Go.Di
end
section
namespace Go.Di
open Go
variable {P:Program} {ty:gF} {x:Cx} {w':World}
theorem nN {t:TypeId} {i:TypeInfo} (h:Ck P t=some i):P.info? t=some i∧∃ d,P.underlying t=some d:=by
 unfold Ck at h
 split at h
 ·rename_i i' d h1 h2; cases h; exact⟨h1,d,h2⟩
 ·cases h
theorem bO {t:TypeId} {k:TK} {sz:Nat} {z:Option (List DV)} (h:NQ P t=some ⟨k,sz,z⟩):BJ P t=some k∧∃ i,P.info? t=some i∧i.size=sz∧zeroOf i=z:=by
 unfold NQ at h
 split at h
 ·rename_i k' i h1 h2
  cases h
  exact⟨h1,i,h2,rfl,rfl⟩
 ·cases h
theorem iS {i:TypeInfo} {cs:List DV} (h:zeroOf i=some cs):∃ z,i.zero=some z∧pR z.cells.toList=some cs∧cs.length=i.size:=by
 unfold zeroOf at h
 split at h
 ·rename_i z hz
  split at h
  ·rename_i iU hc
   split at h
   ·cases h; exact⟨z,hz,hc,‹_›⟩
   ·cases h
  ·cases h
 ·cases h
theorem ku {t:TypeId} {e s b:Nat} {agg:Bool} (h:BJ P t=some (.slice e s b agg)):P.underlying t=some (.slice e)∧∃ i,P.info? e=some i∧i.size=s∧i.bytes=b∧nC P e=agg:=by
 unfold BJ at h
 split at h
 ·simp only[ah] at h; obtain⟨_,_,h⟩:=h; cases h
 ·simp only[ah] at h; obtain⟨_,_,h⟩:=h; cases h
 ·rename_i e' he
  simp only[ah] at h
  obtain⟨i,h1,h⟩:=h
  cases h
  exact⟨he,i,(nN h1).1,rfl,rfl,rfl⟩
 ·cases h
 ·cases h
theorem vC {t:TypeId} {n s:Nat} {agg:Bool} (h:BJ P t=some (.array n s agg)):∃ e,P.underlying t=some (.array n e)∧∃ i,P.info? e=some i∧i.size=s∧nC P e=agg∧∃ d0,P.underlying e=some d0:=by
 unfold BJ at h
 split at h
 ·simp only[ah] at h; obtain⟨_,_,h⟩:=h; cases h
 ·rename_i m e' he
  simp only[ah] at h
  obtain⟨i,h1,h⟩:=h
  cases h
  exact⟨e',he,i,(nN h1).1,rfl,rfl,(nN h1).2⟩
 ·simp only[ah] at h; obtain⟨_,_,h⟩:=h; cases h
 ·cases h
 ·cases h
def Ey (P:Program) (f:Field) (r:Nat×Nat×Bool):Prop:=f.offset=r.1∧∃ i,P.info? f.type=some i∧i.size=r.2.1∧nC P f.type=r.2.2∧∃ d0,P.underlying f.type=some d0
theorem yj:∀ {l:List Field} {fs:List (Nat×Nat×Bool)},(l.mapM fun f=>(Ck P f.type).map fun i=>(f.offset,i.size,nC P f.type))=some fs→l.length=fs.length∧∀ (j:Nat) (r:Nat×Nat×Bool),fs[j]? = some r→∃ f,l[j]? = some f∧Ey P f r
 | [],fs,h=>by
  have:fs=[]:=by simpa using h.symm
  subst this; simp
 | f::l,fs,h=>by
  simp only[List.mapM_cons,Option.bind_eq_bind,ko,ah,Option.pure_def,az] at h
  obtain⟨r,⟨i,h1,rfl⟩,zB,h2,rfl⟩:=h
  obtain⟨h3,h4⟩:=yj h2
  refine⟨by simp[h3],fun j r hr => ?_⟩
  cases j with
  | zero=>simp only[List.getElem?_cons_zero,az] at hr; subst hr; exact⟨f,rfl,rfl,i,(nN h1).1,rfl,rfl,(nN h1).2⟩
  | succ j=>simpa using h4 j r (by simpa using hr)
theorem wX {t:TypeId} {fs:List (Nat×Nat×Bool)} (h:BJ P t=some (.struct fs)):∃ fields:Array Field,P.underlying t=some (.struct fields)∧fields.size=fs.length∧∀ (j:Nat) (r:Nat×Nat×Bool),fs[j]? = some r→∃ f,fields[j]? = some f∧Ey P f r:=by
 unfold BJ at h
 split at h
 ·rename_i fields he
  simp only[ah] at h
  obtain⟨zB,h1,h⟩:=h
  cases h
  obtain⟨h2,h3⟩:=yj h1
  exact⟨fields,he,by simpa using h2,fun j r hr=>by simpa using h3 j r hr⟩
 ·simp only[ah] at h; obtain⟨_,_,h⟩:=h; cases h
 ·simp only[ah] at h; obtain⟨_,_,h⟩:=h; cases h
 ·cases h
 ·cases h
theorem H6 {t:TypeId} {k:TK} (h:BJ P t=some k):k.isAgg=nC P t∧∃ d,P.underlying t=some d:=by
 unfold BJ at h
 unfold nC
 split at h
 ·rename_i fields he
  simp only[ah] at h; obtain⟨_,_,rfl⟩:=h; rw[he]; exact⟨rfl,_,rfl⟩
 ·rename_i n e he
  simp only[ah] at h; obtain⟨_,_,rfl⟩:=h; rw[he]; exact⟨rfl,_,rfl⟩
 ·rename_i e he
  simp only[ah] at h; obtain⟨_,_,rfl⟩:=h; rw[he]; exact⟨rfl,_,rfl⟩
 ·rename_i d h1 h2 h3 he
  cases h
  rw[he]
  refine⟨?_,_,rfl⟩
  cases d with
  | struct fs=>exact(h1 fs rfl).elim
  | array n e=>exact(h2 n e rfl).elim
  | _=>rfl
 ·cases h
theorem sA {t:TypeId} {d:TypeDesc} (h:P.underlying t=some d) (w:World):(isAgg t).run P w = .ok (nC P t) w:=by
 unfold isAgg nC
 simp only[Sem.run_bind,run_underlying h,Result.andThen_ok,h]
 cases d<;>rfl
theorem run_sizeOf {t:TypeId} {i:TypeInfo} (h:P.info? t=some i) (w:World):(sizeOf t).run P w = .ok i.size w:=by
 simp[sizeOf,typeInfo,h]
theorem Kg {l:List DV} {v:Value} (h:RV x (.agg l) v):∃ vs,v = .agg vs∧gD x l vs:=by cases h with | agg h hl=>exact⟨_,rfl,h,hl⟩
theorem vL {s:Nat}:∀ {rows:List DV},(∀ r∈rows,r.cells.length=s)→∀ {i:Nat} {r:DV},rows[i]? = some r→∀ {j:Nat},j<s→(flat rows)[i*s+j]? = r.cells[j]?
 | [],_,i,r,h,_,_=>by simp at h
 | r0::rows,hs,i,r,h,j,hj=>by
  have h0:r0.cells.length=s:=hs r0 (by simp)
  simp only[flat,fP]
  cases i with
  | zero =>
   simp only[List.getElem?_cons_zero,az] at h
   subst h
   rw[eG (by omega)]
   simp
  | succ i =>
   have he:(i+1)*s+j=s+(i*s+j):=by rw[lp]; omega
   rw[he,gr (by omega),h0,om]
   exact vL (rows:=rows) (fun r hr=>hs r (by simp[hr])) (by simpa using h) hj
theorem gB {s:Nat}:∀ {rows:List DV},(∀ r∈rows,r.cells.length=s)→(flat rows).length=rows.length*s
 | [],_=>by simp[flat]
 | r::rows,h=>by
  have:=gB (rows:=rows) fun r hr=>h r (by simp[hr])
  have h0:=h r (by simp)
  simp only[flat] at this
  simp only[flat,fP,bU,this,h0,List.length_cons,lp]
  omega
theorem gV (b o n:Nat):(⟨b,o,none⟩:Addr).add n=⟨b,o+n,none⟩:=by unfold Addr.add; split<;>simp_all
theorem C6 {l cs:List DV} {off n:Nat} (h:N9 l off n=some cs):cs.length=n∧off+n≤l.length∧∀ j,j<n→cs[j]? = l[off+j]? := by
 unfold N9 at h
 split at h
 ·cases h
  refine⟨by simp; omega,‹_›,fun j hj => ?_⟩
  rw[mL,if_pos hj,pW]
 ·cases h
theorem xo {t:TypeId} {i:TypeInfo} {d0:TypeDesc} {b o off size:Nat} {agg:Bool} {l:List DV} {d:DV} (hi:P.info? t=some i) (hu:P.underlying t=some d0) (hs:i.size=size) (ha:nC P t=agg)
  (hc:∀ j c,l[j]? = some c→∃ v,x.w.cell? ⟨b,o+j,none⟩=some v∧RV x c v) (h:nv agg size l off=some d):∃ v,(loadVar t ⟨b,o+off,none⟩).run P x.w = .ok v x.w∧RV x d v:=by
 unfold nv at h
 subst ha
 cases Dm:nC P t with
 | true =>
  rw[Dm,if_pos rfl,ah] at h
  obtain⟨cs,h1,rfl⟩:=h
  obtain⟨h2,h3,h4⟩:=C6 h1
  have hf:∀ j,j<size→∃ v,x.w.cell? ⟨b,o+off+j,none⟩=some v∧∀ c,cs[j]? = some c→RV x c v:=by
   intro j hj
   have hlt:off+j<l.length:=by omega
   obtain⟨v,k1,k2⟩:=hc (off+j) l[off+j] (bK hlt)
   refine⟨v,by rw[fC]; exact k1,fun c ov => ?_⟩
   rw[h4 j hj,bK hlt] at ov
   cases ov
   exact k2
  let f:Nat→Value:=fun j=>if hj:j<size then (hf j hj).choose else undef
  have NG:∀ j,j<size→x.w.cell? ⟨b,o+off+j,none⟩=some (f j):=fun j hj=>by
   simp only[f,dif_pos hj]; exact(hf j hj).choose_spec.1
  have Vk:∀ j,j<size→∀ c,cs[j]? = some c→RV x c (f j):=fun j hj=>by
   simp only[f,dif_pos hj]; exact(hf j hj).choose_spec.2
  refine⟨.agg ((List.range size).map f).toArray,?_,.agg (by simp[h2]) fun j c ov => ?_⟩
  ·unfold loadVar
   simp only[Sem.run_bind,sA hu,Dm,Result.andThen_ok,if_true,run_sizeOf hi,hs]
   rw[run_loadCells (P:=P) x.w ⟨b,o+off,none⟩ size f fun j hj=>by rw[gV]; exact NG j hj]
   rfl
  ·have hj:j<size:=by have:=(aJ.1 ov).1; omega
   have:=Vk j hj c ov
   simpa [aV,hj] using this
 | false =>
  rw[Dm] at h
  simp only[aD,if_false] at h
  obtain⟨v,k1,k2⟩:=hc off d h
  refine⟨v,?_,k2⟩
  unfold loadVar
  simp only[Sem.run_bind,sA hu,Dm,Result.andThen_ok,aD,if_false,run_load,k1]
theorem Kr {t:TypeId} {i:TypeInfo} {d0:TypeDesc} {off size:Nat} {agg:Bool} {l:List DV} {arr:Array Value} {d:DV} (hi:P.info? t=some i) (hu:P.underlying t=some d0) (hs:i.size=size) (ha:nC P t=agg)
  (hc:gD x l arr) (h:nv agg size l off=some d) (w:World):∃ v,(part t arr off).run P w = .ok v w∧RV x d v:=by
 unfold nv at h
 subst ha
 cases Dm:nC P t with
 | true =>
  rw[Dm,if_pos rfl,ah] at h
  obtain⟨cs,h1,rfl⟩:=h
  obtain⟨h2,h3,h4⟩:=C6 h1
  refine⟨.agg (arr.extract off (off+size)),?_,.agg (by simp[h2,hc.1]; omega) fun j c ov => ?_⟩
  ·unfold part
   simp only[Sem.run_bind,sA hu,Dm,Result.andThen_ok,if_true,run_sizeOf hi,hs]
   rfl
  ·have hj:j<size:=by have:=(aJ.1 ov).1; omega
   rw[h4 j hj] at ov
   have:=hc.2 _ _ ov
   have hlt:off+j<arr.size:=by rw[hc.1]; omega
   simp only[aV,Array.getElem?_extract] at this ⊢
   rw[if_pos (by omega)]
   exact this
 | false =>
  rw[Dm] at h
  simp only[aD,if_false] at h
  have hlt:off<arr.size:=by rw[hc.1]; exact(aJ.1 h).1
  refine⟨arr[off],?_,by simpa [aV,hlt] using hc.2 _ _ h⟩
  unfold part
  simp only[Sem.run_bind,sA hu,Dm,Result.andThen_ok,aD,if_false,bQ hlt,Sem.run_pure]
theorem one_cell {d:DV} {v:Value} (h:RV x d v) (h1:d.one=true):v.oneCell'=true∧d.cells=[d]∧v.cells=#[v]:=by
 cases h with
 | @val v h =>
  cases v with
  | tuple vs=>simp[DV.one] at h1
  | agg vs=>simp[wL] at h
  | _=>exact⟨rfl,rfl,rfl⟩
 | agg h hl=>simp[DV.one] at h1
 | gI h hl=>simp[DV.one] at h1
 | sl hv hr h1 h2 h3 hsp h4=>exact⟨rfl,rfl,rfl⟩
 | ptr h=>exact⟨rfl,rfl,rfl⟩
 | eS hv hr=>exact⟨rfl,rfl,rfl⟩
 | fn h1 h2 h3 h4=>exact⟨rfl,rfl,rfl⟩
 | map h=>exact⟨rfl,rfl,rfl⟩
 | BA h=>exact⟨rfl,rfl,rfl⟩
 | jG h h1 h2=>exact⟨rfl,rfl,rfl⟩
 | fW h h1 h2=>exact⟨rfl,rfl,rfl⟩
theorem ru {d:DV} {v:Value} (h:RV x d v):gD x d.cells v.cells:=by
 have key:d.cells=[d]→v.cells=#[v]→gD x d.cells v.cells:=fun h1 h2=>by
  rw[h1,h2]
  refine⟨rfl,fun j c hc => ?_⟩
  cases j with
  | zero=>simp only[List.getElem?_cons_zero,az] at hc; subst hc; exact h
  | succ j=>simp at hc
 cases h with
 | agg h hl=>exact⟨h,hl⟩
 | @val v h =>
  cases v with
  | agg vs=>simp[wL] at h
  | _=>exact key rfl rfl
 | _=>exact key rfl rfl
theorem cells_one {d:DV} {v:Value} (h:RV x d v) (h1:d.cells.all DV.one=true):∀ u∈v.cells.toList,u.oneCell'=true:=by
 intro u hu
 have hc:=ru h
 obtain⟨j,hj,rfl⟩:=List.mem_iff_getElem.1 hu
 have oJ:j<d.cells.length:=by rw[← hc.1]; simpa using hj
 have h2:=hc.2 j d.cells[j] (bK oJ)
 have h3:d.cells[j].one=true:=bh.1 h1 _ (mJ oJ)
 have h4:=(one_cell h2 h3).1
 have hj2:j<v.cells.size:=by simpa using hj
 simpa [aV,hj2] using h4
theorem pg {l cs l':List DV} {off:Nat} (h:sR l off cs=some l'):off+cs.length≤l.length∧l'=l.take off++cs++l.drop (off+cs.length):=by
 unfold sR at h
 split at h
 ·cases h; exact⟨‹_›,rfl⟩
 ·cases h
theorem Em {l cs:List DV} {arr vs:Array Value} {off:Nat} (hle:l.length≤arr.size) (ha:∀ j c,l[j]? = some c→RV x c (arr.getD j undef)) (hv:gD x cs vs) (h1:off≤l.length) (h2:off+cs.length≤arr.size) :
  ∀ j c,(l.take off++cs++l.drop (off+cs.length))[j]? = some c→RV x c ((arr.toList.take off++vs.toList++arr.toList.drop (off+vs.size)).toArray.getD j undef):=by
 intro j c hc
 have e2:=hv.1
 simp only[aV,List.getElem?_toArray]
 by_cases c1:j<off
 ·rw[eV,eG (by simp; omega),mL,if_pos c1] at hc ⊢
  have:=ha j c hc
  simpa [aV] using this
 ·by_cases c2:j<off+cs.length
  ·rw[eG (by simp; omega),gr (by simp; omega)] at hc ⊢
   have e3:(l.take off).length=off:=by simp; omega
   have e4:(arr.toList.take off).length=off:=by simp; omega
   rw[e3] at hc
   rw[e4]
   have:=hv.2 _ _ hc
   simpa [aV] using this
  ·have e3:(l.take off++cs).length=off+cs.length:=by simp; omega
   have e4:(arr.toList.take off++vs.toList).length=off+cs.length:=by simp; omega
   rw[gr (by omega),e3,pW] at hc
   rw[gr (by omega),e4,pW]
   have e5:off+vs.size+(j-(off+cs.length))=off+cs.length+(j-(off+cs.length)):=by omega
   rw[e5]
   have:=ha _ c hc
   simpa [aV] using this
theorem Ke {l cs l':List DV} {arr vs:Array Value} {off:Nat} (hl:gD x l arr) (hv:gD x cs vs) (h:sR l off cs=some l'):gD x l' (arr.toList.take off++vs.toList++arr.toList.drop (off+vs.size)).toArray:=by
 obtain⟨h1,rfl⟩:=pg h
 have e1:=hl.1
 have e2:=hv.1
 exact⟨by simp; omega,Em (by omega) hl.2 hv (by omega) (by omega)⟩
theorem kA {S:av} {id n e s:Nat} {l:List DV} {z:Bool} (h:BC S id n=some (e,s,l,z)):S[id]? = some (.op e s l z)∧n*s=l.length:=by
 unfold BC at h
 split at h
 ·rename_i e' s' l' z' hS
  split at h
  ·cases h; exact⟨hS,‹_›⟩
  ·cases h
 ·cases h
theorem Mk {c:DV} (h:c.bS=true):c.one=true:=by cases c<;>simp_all [DV.bS,DV.one]
end Go.Di
end
