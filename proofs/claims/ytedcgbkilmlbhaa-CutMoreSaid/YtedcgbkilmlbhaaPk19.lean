import Derived.Test.YtedcgbkilmlbhaaPk18
namespace Go.Di
open Go
variable {P:Program} {ty:fR} {x:Cx} {w':World}
def Cx.froze (x:Cx)(w':World)(F:Nat->Prop):Cx:=⟨w',x.μ,x.κ,λc o=>x.Fz c o\/(c=x.w.heap.size/\F o),x.S⟩
theorem s7{F:Nat->Prop}{ob:Obj}(hR:Rel x)(hp:pK x.w w' ob):bV x (x.froze w' F) where
 size:=by show _<=w'.heap.size;rw[hp.heap];simp
 env:=hp.env
 fz:=λc o h=>⟨.inl h,cell_of_block (hp.lt (hR.wN h)) o⟩
 JA:=λc o h=>by
  rcases h with h|h;.exact .inl h
  exact .inr (.inl (by omega))
 old:=λc hc _=>hp.lt hc
 len:=ak _
 cells:=λid l hl=>⟨rfl,l,hl⟩
 eC:=λid c hl hc=>⟨rfl,⟨c,hl,eV hc⟩,λ_=>by obtain⟨o,h1,-⟩:=hR.eC id c hl hc;exact hp.lt (cF h1)⟩
 dR:=λt e s n ht=>⟨n,ht,ak _,λ_=>⟨rfl,rfl⟩⟩
 live:=λi hi=>.inl ⟨hi,rfl⟩
 ops:=λ_ _ _ l z h=>⟨l,z,h,ak _,λe=>⟨rfl,e⟩,λ_=>⟨rfl,rfl⟩⟩
theorem Rv{F:Nat->Prop}{ob:Obj}(hR:Rel x)(hp:pK x.w w' ob)(hF:∀o,F o->∃v,w'.cell? ⟨x.w.heap.size,o,none⟩=some v):Rel (x.froze w' F) where
 cells:=λid l hl=>by obtain⟨arr,e,h1,h2,h3⟩:=hR.cells id l hl;exact⟨arr,e,(hp.lt (cF h1)).trans h1,h2,λj c hc=>(h3 j c hc).mono (s7 hR hp)⟩
 dR:=λid e s n hl=>by obtain⟨arr,h1,h2⟩:=hR.dR id e s n hl;exact⟨arr,(hp.lt (cF h1)).trans h1,h2⟩
 eC:=λid c hl hc=>by obtain⟨o,h1,h2⟩:=hR.eC id c hl hc;exact⟨o,(hp.lt (cF h1)).trans h1,h2.mono (s7 hR hp)⟩
 inj:=hR.inj
 Ae:=λc o h=>by
  rcases h with h|⟨rfl,h⟩;.obtain⟨v,hv⟩:=hR.Ae c o h;exact⟨v,(cell_of_block (hp.lt (hR.wN h)) o).trans hv⟩
  exact hF o h
 sep:=λid ⟨l,hl⟩ o ho=>by
  rcases ho with ho|⟨ho,-⟩;.exact hR.sep id ⟨l,hl⟩ o ho
  have:x.μ id<x.w.heap.size:=hR.iF (bk hl (by simp));have ho:x.μ id=x.w.heap.size:=ho;omega
 oH:=λid e s n hl o ho=>by
  rcases ho with ho|⟨ho,-⟩;.exact hR.oH id e s n hl o ho
  have:x.μ id<x.w.heap.size:=hR.iF (bk hl (by simp));have ho:x.μ id=x.w.heap.size:=ho;omega
 ops:=λid e s l z hl=>by
  obtain⟨arr,h1,h2,h3,h4,h5,h6,h7⟩:=hR.ops id e s l z hl;refine⟨arr,(hp.lt (cF h1)).trans h1,h2,h3,h4,λj c hc=>⟨(h5 j c hc).1,(h5 j c hc).2.mono (s7 hR hp)⟩,λhz j hj=>.inl (h6 hz j hj),λhz o ho=>?_⟩;rcases ho with ho|⟨ho,-⟩;.exact h7 hz o ho
  have:x.μ id<x.w.heap.size:=hR.iF (bk hl (by simp));have ho:x.μ id=x.w.heap.size:=ho;omega
def Cx.upd (x:Cx)(id:Nat)(arr:Array Value)(F:Nat->Prop)(b:DB):Cx:=⟨x.w.setRow (x.μ id) arr,x.μ,x.κ,λc o=>x.Fz c o\/(c=x.μ id/\F o),x.S.set id b⟩
theorem gW{S:ai}{id:Nat}{b0:DB}(h:S[id]? =some b0)(b:DB)(j:Nat):(S.set id b)[j]? =if j=id then some b else S[j]? :=by
 have hlt:=(aA.1 h).1;rw[aH];by_cases h1:j=id;.subst h1;simp[hlt]
 rw[if_neg (Ne.symm h1),if_neg h1]
theorem uT{id:Nat}{arr:Array Value}{F:Nat->Prop}{b0 b:DB}(hR:Rel x)(h0:x.S[id]? =some b0)
  (hb:(∃l l',b0=.cells l/\b=.cells l')\/(∃e s n n',b0=.tail e s n/\b=.tail e s n'/\n<=n'/\∀o,o<n->(x.w.setRow (x.μ id) arr).cell? ⟨x.μ id,o,none⟩=x.w.cell? ⟨x.μ id,o,none⟩)\/(∃e s l l',b0=.op e s l false/\b=.op e s l' false/\l.length<=l'.length)):bV x (x.upd id arr F b):=by
 have FG:b0≠.none:=by rcases hb with ⟨l,l',rfl,-⟩|⟨e,s,n,n',rfl,-⟩|⟨e,s,l,l',rfl,-⟩<;>simp
 have hne:b≠.none:=by rcases hb with ⟨l,l',-,rfl⟩|⟨e,s,n,n',-,rfl,-⟩|⟨e,s,l,l',-,rfl,-⟩<;>simp
 have bg:∀j,(x.upd id arr F b).S[j]? =if j=id then some b else x.S[j]? :=λj=>gW h0 b j
 refine⟨by show _<=(x.w.setRow _ _).heap.size;rw[setRow_size];exact ak _,⟨rfl,rfl⟩,λc o h=>⟨.inl h,?_⟩,λc o h=>?_,λc hc hn=>?_,by show _<=(x.S.set _ _).length;simp,λi l hl=>⟨rfl,?_⟩,λi c hl hc=>⟨rfl,?_,?_⟩,λt e s n ht=>?_,λi hi=>.inl ⟨?_,rfl⟩,λt e s l z ht=>?_⟩
 .show(x.w.setRow _ _).cell? _=_;by_cases hc:c=x.μ id
  .subst hc;rcases hb with ⟨l,l',rfl,-⟩|⟨e,s,n,n',rfl,-,-,hk⟩|⟨e,s,l,l',rfl,-⟩;.exact absurd h (hR.sep id ⟨l,h0⟩ o)
   .exact hk o (hR.oH id e s n h0 o h)
   obtain⟨-,-,-,-,-,-,-,k⟩:=hR.ops id e s l false h0;exact absurd h (k rfl o)
  exact cell_setRow_other _ _ _ _ hc
 .rcases h with h|⟨rfl,-⟩;.exact .inl h
  exact .inr (.inr ⟨id,bk h0 FG,rfl⟩)
 .exact setRow_other _ _ _ _ λe=>hn id (bk h0 FG) e.symm
 .rw[bg];split
  .rename_i e;subst e;rw[h0]at hl;cases hl;rcases hb with ⟨l,l',-,rfl⟩|⟨e,s,n,n',h1,-⟩|⟨e,s,l,l',h1,-⟩;.exact⟨l',rfl⟩
   .cases h1
   cases h1
  exact⟨l,hl⟩
 .rw[bg];split;.rename_i e;subst e;rw[h0]at hl;cases hl;rcases hb with ⟨l,l',h1,-⟩|⟨e,s,n,n',h1,-⟩|⟨e,s,l,l',h1,-⟩<;>(subst h1;cases hc)
  exact⟨c,hl,eV hc⟩
 .rintro rfl;refine setRow_other _ _ _ _ λe=>?_;have:=hR.inj i id (bk hl (by simp)) (bk h0 FG) e;subst this;rw[h0]at hl;cases hl;rcases hb with ⟨l,l',h1,-⟩|⟨e,s,n,n',h1,-⟩|⟨e,s,l,l',h1,-⟩<;>cases h1
 .by_cases e1:t=id
  .subst e1;rw[h0]at ht;cases ht;rcases hb with ⟨l,l',h1,-⟩|⟨e,s,n,n',h1,rfl,h3,-⟩|⟨e,s,l,l',h1,-⟩;.cases h1
   .cases h1;exact⟨n',by rw[bg,if_pos rfl],h3,λ_=>⟨rfl,rfl⟩⟩
   cases h1
  exact⟨n,by rw[bg,if_neg e1];exact ht,ak _,λ_=>⟨rfl,rfl⟩⟩
 .obtain⟨c,hc,Fq⟩:=hi;rw[bg]at hc;split at hc;.rename_i e;subst e;exact bk h0 FG
  exact⟨c,hc,Fq⟩
 by_cases e1:t=id
 .subst e1;rw[h0]at ht;cases ht;rcases hb with ⟨l,l',h1,-⟩|⟨e,s,n,n',h1,-⟩|⟨e,s,l,l',h1,rfl,h3⟩;.cases h1
  .cases h1
  cases h1;exact⟨l',false,by rw[bg,if_pos rfl],h3,by simp,λ_=>⟨rfl,rfl⟩⟩
 exact⟨l,z,by rw[bg,if_neg e1];exact ht,ak _,λe=>⟨rfl,e⟩,λ_=>⟨rfl,rfl⟩⟩
theorem CP{id:Nat}{arr:Array Value}{F:Nat->Prop}{b0 b:DB}(hR:Rel x)(h0:x.S[id]? =some b0)
  (hb:(∃l l',b0=.cells l/\b=.cells l'/\(∀o,¬F o)/\arr.size=l'.length/\∀j c,l'[j]? =some c->RV x c (arr.getD j undef))\/
   (∃e s n n',b0=.tail e s n/\b=.tail e s n'/\n<=n'/\(∀o,o<n->(x.w.setRow (x.μ id) arr).cell? ⟨x.μ id,o,none⟩=x.w.cell? ⟨x.μ id,o,none⟩)/\arr.size=x.κ id*s/\n'<=arr.size/\∀o,F o->o<n')\/
   (∃e s l l',b0=.op e s l false/\b=.op e s l' false/\l.length<=l'.length/\(∀o,¬F o)/\arr.size=x.κ id*s/\l'.length<=arr.size/\∀j c,l'[j]? =some c->c.ck=true/\RV x c (arr.getD j undef))):Rel (x.upd id arr F b):=by
 have o8:(∃l l',b0=.cells l/\b=.cells l')\/(∃e s n n',b0=.tail e s n/\b=.tail e s n'/\n<=n'/\∀o,o<n->(x.w.setRow (x.μ id) arr).cell? ⟨x.μ id,o,none⟩=x.w.cell? ⟨x.μ id,o,none⟩)\/(∃e s l l',b0=.op e s l false/\b=.op e s l' false/\l.length<=l'.length):=by
  rcases hb with ⟨l,l',h1,h2,-⟩|⟨e,s,n,n',h1,h2,h3,h4,-⟩|⟨e,s,l,l',h1,h2,h3,-⟩;.exact .inl ⟨l,l',h1,h2⟩
  .exact .inr (.inl ⟨e,s,n,n',h1,h2,h3,h4⟩)
  exact .inr (.inr ⟨e,s,l,l',h1,h2,h3⟩)
 have M:=uT (F:=F) hR h0 o8;have FG:b0≠.none:=by rcases hb with ⟨l,l',rfl,-⟩|⟨e,s,n,n',rfl,-⟩|⟨e,s,l,l',rfl,-⟩<;>simp
 have bg:∀j,(x.upd id arr F b).S[j]? =if j=id then some b else x.S[j]? :=λj=>gW h0 b j
 have hold:∃old e,x.w.heap[x.μ id]? =some (.cells old e (0,0))/\(∀e' s n,b0=.tail e' s n->e=e'/\x.κ id<=maxLen)/\∀e' s l z,b0=.op e' s l z->e=e'/\x.κ id<=maxLen:=by
  rcases hb with ⟨l,l',rfl,-⟩|⟨e,s,n,n',rfl,-⟩|⟨e,s,l,l',rfl,-⟩;.obtain⟨a,e,h1,-⟩:=hR.cells id l h0;exact⟨a,e,h1,by simp,by simp⟩
  .obtain⟨a,h1,-,-,h4⟩:=hR.dR id e s n h0;exact⟨a,e,h1,λe' s' n' h=>by cases h;exact⟨rfl,h4⟩,by simp⟩
  obtain⟨a,h1,-,-,h4,-⟩:=hR.ops id e s l false h0;exact⟨a,e,h1,by simp,λe' s' l' z h=>by cases h;exact⟨rfl,h4⟩⟩
 obtain⟨old,e0,hh,he0,he1⟩:=hold;have yq:(x.w.setRow (x.μ id) arr).heap[x.μ id]? =some (.cells arr e0 (0,0)):=setRow_heap _ _ _ _ _ _ hh;have pI:∀i,Live (x.upd id arr F b).S i->Live x.S i:=λi hi=>by
  rcases M.live i hi with ⟨h,-⟩|h;.exact h
  obtain⟨c,hc,Fq⟩:=hi;rw[bg]at hc;split at hc;.rename_i e;subst e;exact bk h0 FG
  exact⟨c,hc,Fq⟩
 have HT:∀i,i≠id->Live x.S i->(x.w.setRow (x.μ id) arr).heap[x.μ i]? =x.w.heap[x.μ i]? :=λi hi hl=>setRow_other _ _ _ _ λe=>hi (hR.inj i id hl (bk h0 FG) e);constructor
 .intro i l hl;rw[bg]at hl;by_cases h:i=id
  .subst h;rw[if_pos rfl]at hl;cases hl;rcases hb with ⟨l0,l',h1,h2,h3,h4,h5⟩|⟨e,s,n,n',h1,h2,-⟩|⟨e,s,l,l',h1,h2,-⟩;.cases h2;exact⟨arr,e0,yq,h4,λj c hc=>(h5 j c hc).mono M⟩
   .cases h2
   cases h2
  rw[if_neg h]at hl;obtain⟨a,e,h1,h2,h3⟩:=hR.cells i l hl;exact⟨a,e,(HT i h (bk hl (by simp))).trans h1,h2,λj c hc=>(h3 j c hc).mono M⟩
 .intro i e s n hl;rw[bg]at hl;by_cases h:i=id
  .subst h;rw[if_pos rfl]at hl;cases hl;rcases hb with ⟨l0,l',h1,h2,-⟩|⟨e',s',m,m',h1,h2,h3,h4,h5,h6,h7⟩|⟨e,s,l,l',h1,h2,-⟩;.cases h2
   .cases h2;obtain⟨k1,k2⟩:=he0 _ _ _ h1;subst k1;exact⟨arr,yq,h5,h6,k2⟩
   cases h2
  rw[if_neg h]at hl;obtain⟨a,h1,h2⟩:=hR.dR i e s n hl;exact⟨a,(HT i h (bk hl (by simp))).trans h1,h2⟩
 .intro i c hl hc;rw[bg]at hl;by_cases h:i=id;.subst h;rw[if_pos rfl]at hl;cases hl;rcases hb with ⟨l0,l',h1,h2,-⟩|⟨e',s',m,m',h1,h2,-⟩|⟨e,s,l,l',h1,h2,-⟩<;>(subst h2;cases hc)
  rw[if_neg h]at hl;obtain⟨o,h1,h2⟩:=hR.eC i c hl hc;exact⟨o,(HT i h (bk hl (fo hc))).trans h1,h2.mono M⟩
 .exactλi j hi hj he=>hR.inj i j (pI i hi) (pI j hj) he
 .intro c o h;rcases h with h|⟨rfl,h⟩;.obtain⟨v,hv⟩:=hR.Ae c o h;exact⟨v,(M.fz c o h).2.trans hv⟩
  rcases hb with ⟨l0,l',-,-,h3,-⟩|⟨e',s',m,m',-,-,-,-,h5,h6,h7⟩|⟨e,s,l,l',-,-,-,h3,-⟩;.exact absurd h (h3 o)
  .have:=h7 o h;refine⟨arr[o]'(by omega),?_⟩;show(x.w.setRow _ _).cell? _=_;rw[cell_setRow_same _ _ _ _ _ _ _ hh];exact ct _
  exact absurd h (h3 o)
 .rintro i ⟨l,hl⟩ o ho;rw[bg]at hl;by_cases h:i=id
  .subst h;rw[if_pos rfl]at hl;cases hl;rcases hb with ⟨l0,l',h1,h2,h3,-⟩|⟨e',s',m,m',h1,h2,-⟩|⟨e,s,l,l',h1,h2,-⟩
   .subst h1;rcases ho with ho|⟨-,ho⟩;.exact hR.sep i ⟨l0,h0⟩ o ho
    exact h3 o ho
   .cases h2
   cases h2
  rw[if_neg h]at hl;rcases ho with ho|⟨ho,-⟩;.exact hR.sep i ⟨l,hl⟩ o ho
  exact h (hR.inj i id (bk hl (by simp)) (bk h0 FG) ho)
 .intro i e s n hl o ho;rw[bg]at hl;by_cases h:i=id
  .subst h;rw[if_pos rfl]at hl;cases hl;rcases hb with ⟨l0,l',h1,h2,-⟩|⟨e',s',m,m',h1,h2,h3,-,-,-,h7⟩|⟨e,s,l,l',h1,h2,-⟩;.cases h2
   .cases h2;subst h1;rcases ho with ho|⟨-,ho⟩;.exact dH (hR.oH i _ _ _ h0 o ho) h3
    exact h7 o ho
   cases h2
  rw[if_neg h]at hl;rcases ho with ho|⟨ho,-⟩;.exact hR.oH i e s n hl o ho
  exact(h (hR.inj i id (bk hl (by simp)) (bk h0 FG) ho)).elim
 intro i e s l z hl;rw[bg]at hl;by_cases h:i=id
 .subst h;rw[if_pos rfl]at hl;cases hl;rcases hb with ⟨l0,l',h1,h2,-⟩|⟨e',s',m,m',h1,h2,-⟩|⟨e',s',l0,l',h1,h2,h3,h4,h5,h6,h7⟩;.cases h2
  .cases h2
  cases h2;obtain⟨k1,k2⟩:=he1 _ _ _ _ h1;subst k1;refine⟨arr,yq,h5,h6,k2,λj c hc=>⟨(h7 j c hc).1,(h7 j c hc).2.mono M⟩,by simp,λ_ o ho=>?_⟩;rcases ho with ho|⟨-,ho⟩;.subst h1;obtain⟨-,-,-,-,-,-,-,k⟩:=hR.ops i _ _ _ _ h0;exact k rfl o ho
  exact h4 o ho
 rw[if_neg h]at hl;obtain⟨a,h1,h2,h3,h4,h5,h6,h7⟩:=hR.ops i e s l z hl;refine⟨a,(HT i h (bk hl (by simp))).trans h1,h2,h3,h4,λj c hc=>⟨(h5 j c hc).1,(h5 j c hc).2.mono M⟩,λhz j hj=>.inl (h6 hz j hj),λhz o ho=>?_⟩;rcases ho with ho|⟨ho,-⟩;.exact h7 hz o ho
 exact h (hR.inj i id (bk hl (by simp)) (bk h0 FG) ho)
def Cx.kH (x:Cx)(w':World)(t k:Nat)(F:Nat->Prop)(b:DB):Cx:=
 ⟨w',λi=>if i=t then x.w.heap.size else x.μ i,λi=>if i=t then k else x.κ i,λc o=>x.Fz c o\/(c=x.w.heap.size/\F o),x.S.set t b⟩
theorem EU{t k:Nat}{F:Nat->Prop}{ob:Obj}{e:TypeId}{s n n':Nat}(hR:Rel x)(h0:x.S[t]? =some (.tail e s n))(hp:pK x.w w' ob)(hlt:n<n'):bV x (x.kH w' t k F (.tail e s n')):=by
 have bg:∀j,(x.kH w' t k F (.tail e s n')).S[j]? =if j=t then some (.tail e s n')else x.S[j]? :=λj=>gW h0 _ j
 refine⟨by show _<=w'.heap.size;rw[hp.heap];simp,hp.env,λc o h=>⟨.inl h,cell_of_block (hp.lt (hR.wN h)) o⟩,λc o h=>?_,λc hc _=>hp.lt hc,by show _<=(x.S.set _ _).length;simp,λi l hl=>?_,λi c hl hc=>?_,λi e1 s1 n1 hl=>?_,λi hi=>?_,λi e1 s1 l z hl=>?_⟩
 .rcases h with h|h;.exact .inl h
  exact .inr (.inl (by omega))
 .have hne:i≠t:=by rintro rfl;rw[h0]at hl;cases hl
  exact⟨if_neg hne,l,by rw[bg,if_neg hne];exact hl⟩
 .have hne:i≠t:=by rintro rfl;rw[h0]at hl;cases hl;cases hc
  exact⟨if_neg hne,⟨c,by rw[bg,if_neg hne];exact hl,eV hc⟩,λ_=>by obtain⟨o,h1,-⟩:=hR.eC i c hl hc;exact hp.lt (cF h1)⟩
 .by_cases hne:i=t;.subst hne;rw[h0]at hl;cases hl;exact⟨n',by rw[bg,if_pos rfl],by omega,λh=>by omega⟩
  exact⟨n1,by rw[bg,if_neg hne];exact hl,ak _,λ_=>⟨if_neg hne,if_neg hne⟩⟩
 .by_cases hne:i=t;.right;subst hne;show _<=(if _ then _ else _);rw[if_pos rfl];exact ak _
  left;obtain⟨c,hc,Fq⟩:=hi;rw[bg,if_neg hne]at hc;exact⟨⟨c,hc,Fq⟩,if_neg hne⟩
 have hne:i≠t:=by rintro rfl;rw[h0]at hl;cases hl
 exact⟨l,z,by rw[bg,if_neg hne];exact hl,ak _,λe=>⟨rfl,e⟩,λ_=>⟨if_neg hne,if_neg hne⟩⟩
theorem Ru{t k:Nat}{F:Nat->Prop}{e:TypeId}{s n n':Nat}{arr:Array Value}(hR:Rel x)(h0:x.S[t]? =some (.tail e s n))(hp:pK x.w w' (.cells arr e (0,0)))(hlt:n<n')
  (hs:arr.size=k*s) (hn:n'<=arr.size) (hk:k<=maxLen) (hF:∀o,F o->o<n'):Rel (x.kH w' t k F (.tail e s n')):=by
 have M:=EU (k:=k) (F:=F) hR h0 hp hlt;have bg:∀j,(x.kH w' t k F (.tail e s n')).S[j]? =if j=t then some (.tail e s n')else x.S[j]? :=λj=>gW h0 _ j
 have hμ:∀i,i≠t->(x.kH w' t k F (.tail e s n')).μ i=x.μ i:=λi h=>if_neg h;have hκ:∀i,i≠t->(x.kH w' t k F (.tail e s n')).κ i=x.κ i:=λi h=>if_neg h;have hμn:(x.kH w' t k F (.tail e s n')).μ t=x.w.heap.size:=if_pos rfl;have hκn:(x.kH w' t k F (.tail e s n')).κ t=k:=if_pos rfl;have pI:∀i,Live (x.kH w' t k F (.tail e s n')).S i->Live x.S i:=by
  rintro i ⟨c,hc,Fq⟩;rw[bg]at hc;split at hc;.rename_i h;subst h;exact bk h0 (by simp)
  exact⟨c,hc,Fq⟩
 constructor
 .intro i l hl;rw[bg]at hl;by_cases h:i=t;.rw[if_pos h]at hl;cases hl
  rw[if_neg h]at hl;obtain⟨a,e,h1,h2,h3⟩:=hR.cells i l hl;rw[hμ i h];exact⟨a,e,(hp.lt (cF h1)).trans h1,h2,λj c hc=>(h3 j c hc).mono M⟩
 .intro i e1 s1 n1 hl;rw[bg]at hl;by_cases h:i=t;.subst h;rw[if_pos rfl]at hl;cases hl;rw[hμn,hκn];exact⟨arr,hp.new,hs,hn,hk⟩
  rw[if_neg h]at hl;obtain⟨a,h1,h2⟩:=hR.dR i e1 s1 n1 hl;rw[hμ i h,hκ i h];exact⟨a,(hp.lt (cF h1)).trans h1,h2⟩
 .intro i c hl hc;rw[bg]at hl;by_cases h:i=t;.rw[if_pos h]at hl;cases hl;cases hc
  rw[if_neg h]at hl;obtain⟨o,h1,h2⟩:=hR.eC i c hl hc;rw[hμ i h];exact⟨o,(hp.lt (cF h1)).trans h1,h2.mono M⟩
 .intro i j hi hj he;by_cases h1:i=t
  .by_cases h2:j=t;.rw[h1,h2]
   rw[h1,hμn,hμ j h2]at he;have:=hR.iF (pI j hj);omega
  by_cases h2:j=t;.rw[h2,hμn,hμ i h1]at he;have:=hR.iF (pI i hi);omega
  rw[hμ i h1,hμ j h2]at he;exact hR.inj i j (pI i hi) (pI j hj) he
 .intro c o h;rcases h with h|⟨rfl,h⟩;.obtain⟨v,hv⟩:=hR.Ae c o h;exact⟨v,(M.fz c o h).2.trans hv⟩
  have:=hF o h;refine⟨arr[o]'(by omega),?_⟩;show w'.cell? _=_;simp only[World.cell?,hp.new];exact ct _
 .rintro i ⟨l,hl⟩ o ho;rw[bg]at hl;by_cases h:i=t;.rw[if_pos h]at hl;cases hl
  rw[if_neg h]at hl;rw[hμ i h]at ho;rcases ho with ho|⟨ho,-⟩;.exact hR.sep i ⟨l,hl⟩ o ho
  have:=hR.iF (bk hl (by simp));omega
 .intro i e1 s1 n1 hl o ho;rw[bg]at hl;by_cases h:i=t
  .subst h;rw[if_pos rfl]at hl;cases hl;rw[hμn]at ho;rcases ho with ho|⟨-,ho⟩;.have:=hR.wN ho;omega
   exact hF o ho
  rw[if_neg h]at hl;rw[hμ i h]at ho;rcases ho with ho|⟨ho,-⟩;.exact hR.oH i e1 s1 n1 hl o ho
  have:=hR.iF (bk hl (by simp));omega
 intro i e1 s1 l z hl;rw[bg]at hl;by_cases h:i=t;.rw[if_pos h]at hl;cases hl
 rw[if_neg h]at hl;obtain⟨a,h1,h2,h3,h4,h5,h6,h7⟩:=hR.ops i e1 s1 l z hl;rw[hμ i h,hκ i h];refine⟨a,(hp.lt (cF h1)).trans h1,h2,h3,h4,λj c hc=>⟨(h5 j c hc).1,(h5 j c hc).2.mono M⟩,λhz j hj=>.inl (h6 hz j hj),λhz o ho=>?_⟩;rcases ho with ho|⟨ho,-⟩;.exact h7 hz o ho
 have:=hR.iF (bk hl (by simp));omega
theorem GU{t k:Nat}{ob:Obj}{e:TypeId}{s:Nat}{l l':List DV}(hR:Rel x)(h0:x.S[t]? =some (.op e s l false))(hp:pK x.w w' ob)(hlt:l.length<l'.length):bV x (x.kH w' t k (λ_=>False) (.op e s l' false)):=by
 have bg:∀j,(x.kH w' t k (λ_=>False) (.op e s l' false)).S[j]? =if j=t then some (.op e s l' false)else x.S[j]? :=λj=>gW h0 _ j
 refine⟨by show _<=w'.heap.size;rw[hp.heap];simp,hp.env,λc o h=>⟨.inl h,cell_of_block (hp.lt (hR.wN h)) o⟩,λc o h=>?_,λc hc _=>hp.lt hc,by show _<=(x.S.set _ _).length;simp,λi l hl=>?_,λi c hl hc=>?_,λi e1 s1 n1 hl=>?_,λi hi=>?_,λi e1 s1 l1 z hl=>?_⟩
 .rcases h with h|h;.exact .inl h
  exact h.2.elim
 .have hne:i≠t:=by rintro rfl;rw[h0]at hl;cases hl
  exact⟨if_neg hne,l,by rw[bg,if_neg hne];exact hl⟩
 .have hne:i≠t:=by rintro rfl;rw[h0]at hl;cases hl;cases hc
  exact⟨if_neg hne,⟨c,by rw[bg,if_neg hne];exact hl,eV hc⟩,λ_=>by obtain⟨o,h1,-⟩:=hR.eC i c hl hc;exact hp.lt (cF h1)⟩
 .have hne:i≠t:=by rintro rfl;rw[h0]at hl;cases hl
  exact⟨n1,by rw[bg,if_neg hne];exact hl,ak _,λ_=>⟨if_neg hne,if_neg hne⟩⟩
 .by_cases hne:i=t;.right;subst hne;show _<=(if _ then _ else _);rw[if_pos rfl];exact ak _
  left;obtain⟨c,hc,Fq⟩:=hi;rw[bg,if_neg hne]at hc;exact⟨⟨c,hc,Fq⟩,if_neg hne⟩
 by_cases hne:i=t;.subst hne;rw[h0]at hl;cases hl;exact⟨l',false,by rw[bg,if_pos rfl],by omega,by simp,λh=>by omega⟩
 exact⟨l1,z,by rw[bg,if_neg hne];exact hl,ak _,λe=>⟨rfl,e⟩,λ_=>⟨if_neg hne,if_neg hne⟩⟩
theorem Wy{t k:Nat}{e:TypeId}{s:Nat}{l l':List DV}{arr:Array Value}(hR:Rel x)(h0:x.S[t]? =some (.op e s l false))(hp:pK x.w w' (.cells arr e (0,0)))(hlt:l.length<l'.length)
  (hs:arr.size=k*s) (hn:l'.length<=arr.size) (hk:k<=maxLen) (hc:∀j c,l'[j]? =some c->c.ck=true/\RV x c (arr.getD j undef)):Rel (x.kH w' t k (λ_=>False) (.op e s l' false)):=by
 have M:=GU (k:=k) hR h0 hp hlt;have bg:∀j,(x.kH w' t k (λ_=>False) (.op e s l' false)).S[j]? =if j=t then some (.op e s l' false)else x.S[j]? :=λj=>gW h0 _ j
 have hμ:∀i,i≠t->(x.kH w' t k (λ_=>False) (.op e s l' false)).μ i=x.μ i:=λi h=>if_neg h;have hκ:∀i,i≠t->(x.kH w' t k (λ_=>False) (.op e s l' false)).κ i=x.κ i:=λi h=>if_neg h;have hμn:(x.kH w' t k (λ_=>False) (.op e s l' false)).μ t=x.w.heap.size:=if_pos rfl;have hκn:(x.kH w' t k (λ_=>False) (.op e s l' false)).κ t=k:=if_pos rfl;have Mr:∀c o,(x.kH w' t k (λ_=>False) (.op e s l' false)).Fz c o->x.Fz c o:=λc o h=>h.elim id λh=>h.2.elim;have pI:∀i,Live (x.kH w' t k (λ_=>False) (.op e s l' false)).S i->Live x.S i:=by
  rintro i ⟨c,hc,Fq⟩;rw[bg]at hc;split at hc;.rename_i h;subst h;exact bk h0 (by simp)
  exact⟨c,hc,Fq⟩
 constructor
 .intro i l1 hl;rw[bg]at hl;by_cases h:i=t;.rw[if_pos h]at hl;cases hl
  rw[if_neg h]at hl;obtain⟨a,e,h1,h2,h3⟩:=hR.cells i l1 hl;rw[hμ i h];exact⟨a,e,(hp.lt (cF h1)).trans h1,h2,λj c hc=>(h3 j c hc).mono M⟩
 .intro i e1 s1 n1 hl;rw[bg]at hl;by_cases h:i=t;.rw[if_pos h]at hl;cases hl
  rw[if_neg h]at hl;obtain⟨a,h1,h2⟩:=hR.dR i e1 s1 n1 hl;rw[hμ i h,hκ i h];exact⟨a,(hp.lt (cF h1)).trans h1,h2⟩
 .intro i c hl hc;rw[bg]at hl;by_cases h:i=t;.rw[if_pos h]at hl;cases hl;cases hc
  rw[if_neg h]at hl;obtain⟨o,h1,h2⟩:=hR.eC i c hl hc;rw[hμ i h];exact⟨o,(hp.lt (cF h1)).trans h1,h2.mono M⟩
 .intro i j hi hj he;by_cases h1:i=t
  .by_cases h2:j=t;.rw[h1,h2]
   rw[h1,hμn,hμ j h2]at he;have:=hR.iF (pI j hj);omega
  by_cases h2:j=t;.rw[h2,hμn,hμ i h1]at he;have:=hR.iF (pI i hi);omega
  rw[hμ i h1,hμ j h2]at he;exact hR.inj i j (pI i hi) (pI j hj) he
 .intro c o h;have h:=Mr c o h;obtain⟨v,hv⟩:=hR.Ae c o h;exact⟨v,(M.fz c o h).2.trans hv⟩
 .rintro i ⟨l1,hl⟩ o ho;rw[bg]at hl;by_cases h:i=t;.rw[if_pos h]at hl;cases hl
  rw[if_neg h]at hl;rw[hμ i h]at ho;exact hR.sep i ⟨l1,hl⟩ o (Mr _ _ ho)
 .intro i e1 s1 n1 hl o ho;rw[bg]at hl;by_cases h:i=t;.rw[if_pos h]at hl;cases hl
  rw[if_neg h]at hl;rw[hμ i h]at ho;exact hR.oH i e1 s1 n1 hl o (Mr _ _ ho)
 intro i e1 s1 l1 z hl;rw[bg]at hl;by_cases h:i=t;.subst h;rw[if_pos rfl]at hl;cases hl;rw[hμn,hκn];refine⟨arr,hp.new,hs,hn,hk,λj c h=>⟨(hc j c h).1,(hc j c h).2.mono M⟩,by simp,λ_ o ho=>?_⟩;have:=hR.wN (Mr _ _ ho);omega
 rw[if_neg h]at hl;obtain⟨a,h1,h2,h3,h4,h5,h6,h7⟩:=hR.ops i e1 s1 l1 z hl;rw[hμ i h,hκ i h];exact⟨a,(hp.lt (cF h1)).trans h1,h2,h3,h4,λj c hc=>⟨(h5 j c hc).1,(h5 j c hc).2.mono M⟩,λhz j hj=>.inl (h6 hz j hj),λhz o ho=>h7 hz o (Mr _ _ ho)⟩
def Cx.close (x:Cx)(id:Nat)(e:TypeId)(s:Nat)(l:List DV):Cx:=⟨x.w,x.μ,x.κ,λc o=>x.Fz c o\/(c=x.μ id/\o<l.length),x.S.set id (.op e s l true)⟩
theorem EW{id:Nat}{e:TypeId}{s:Nat}{l:List DV}(h0:x.S[id]? =some (.op e s l false)):bV x (x.close id e s l):=by
 have bg:∀j,(x.close id e s l).S[j]? =if j=id then some (.op e s l true)else x.S[j]? :=λj=>gW h0 _ j
 have hne:∀{i c},x.S[i]? =some c->(∀e s l z,c≠DB.op e s l z)->(x.close id e s l).S[i]? =some c:=λ{i c} h hc=>by
  rw[bg,if_neg];.exact h
  rintro rfl;rw[h0]at h;cases h;exact hc _ _ _ _ rfl
 refine⟨ak _,⟨rfl,rfl⟩,λc o h=>⟨.inl h,rfl⟩,λc o h=>?_,λc hc _=>rfl,by show _<=(x.S.set _ _).length;simp,λi l hl=>⟨rfl,l,hne hl (by simp)⟩,λi c hl hc=>⟨rfl,⟨c,hne hl (by rintro _ _ _ _ rfl;cases hc),eV hc⟩,λ_=>rfl⟩,λi e1 s1 n1 hl=>⟨n1,hne hl (by simp),ak _,λ_=>⟨rfl,rfl⟩⟩,λi hi=>.inl ⟨?_,rfl⟩,λi e1 s1 l1 z hl=>?_⟩
 .rcases h with h|⟨rfl,-⟩;.exact .inl h
  exact .inr (.inr ⟨id,bk h0 (by simp),rfl⟩)
 .obtain⟨c,hc,Fq⟩:=hi;rw[bg]at hc;split at hc;.rename_i e;subst e;exact bk h0 (by simp)
  exact⟨c,hc,Fq⟩
 by_cases h:i=id;.subst h;rw[h0]at hl;cases hl;exact⟨l,true,by rw[bg,if_pos rfl],ak _,by simp,λ_=>⟨rfl,rfl⟩⟩
 exact⟨l1,z,by rw[bg,if_neg h];exact hl,ak _,λe=>⟨rfl,e⟩,λ_=>⟨rfl,rfl⟩⟩
theorem Rw{id:Nat}{e:TypeId}{s:Nat}{l:List DV}(hR:Rel x)(h0:x.S[id]? =some (.op e s l false)):Rel (x.close id e s l):=by
 have M:=EW (x:=x) h0;have bg:∀j,(x.close id e s l).S[j]? =if j=id then some (.op e s l true)else x.S[j]? :=λj=>gW h0 _ j
 have hgo:∀{i c},(x.close id e s l).S[i]? =some c->(∀e s l z,c≠DB.op e s l z)->x.S[i]? =some c/\i≠id:=λ{i c} h hc=>by
  rw[bg]at h;split at h;.cases h;exact absurd rfl (hc _ _ _ _)
  exact⟨h,‹_›⟩
 have pI:∀i,Live (x.close id e s l).S i->Live x.S i:=λi hi=>by
  obtain⟨c,hc,Fq⟩:=hi;rw[bg]at hc;split at hc;.rename_i e;subst e;exact bk h0 (by simp)
  exact⟨c,hc,Fq⟩
 obtain⟨arr,a1,a2,a3,a4,a5,-,-⟩:=hR.ops id e s l false h0;constructor;.intro i l1 hl;obtain⟨hl,-⟩:=hgo hl (by simp);obtain⟨a,e,h1,h2,h3⟩:=hR.cells i l1 hl;exact⟨a,e,h1,h2,λj c hc=>(h3 j c hc).mono M⟩
 .intro i e1 s1 n1 hl;obtain⟨hl,-⟩:=hgo hl (by simp);exact hR.dR i e1 s1 n1 hl
 .intro i c hl hc;obtain⟨hl,-⟩:=hgo hl (by rintro _ _ _ _ rfl;cases hc);obtain⟨o,h1,h2⟩:=hR.eC i c hl hc;exact⟨o,h1,h2.mono M⟩
 .exactλi j hi hj he=>hR.inj i j (pI i hi) (pI j hj) he
 .intro c o h;rcases h with h|⟨rfl,h⟩;.exact hR.Ae c o h
  exact⟨arr[o]'(by omega),by show x.w.cell? _=_;simp only[World.cell?,a1];exact ct _⟩
 .rintro i ⟨l1,hl⟩ o ho;obtain⟨hl,hi⟩:=hgo hl (by simp);rcases ho with ho|⟨ho,-⟩;.exact hR.sep i ⟨l1,hl⟩ o ho
  exact hi (hR.inj i id (bk hl (by simp)) (bk h0 (by simp)) ho)
 .intro i e1 s1 n1 hl o ho;obtain⟨hl,hi⟩:=hgo hl (by simp);rcases ho with ho|⟨ho,-⟩;.exact hR.oH i e1 s1 n1 hl o ho
  exact(hi (hR.inj i id (bk hl (by simp)) (bk h0 (by simp)) ho)).elim
 intro i e1 s1 l1 z hl;rw[bg]at hl;by_cases h:i=id;.subst h;rw[if_pos rfl]at hl;cases hl;exact⟨arr,a1,a2,a3,a4,λj c hc=>⟨(a5 j c hc).1,(a5 j c hc).2.mono M⟩,λ_ j hj=>.inr ⟨rfl,hj⟩,by simp⟩
 rw[if_neg h]at hl;obtain⟨a,h1,h2,h3,h4,h5,h6,h7⟩:=hR.ops i e1 s1 l1 z hl;refine⟨a,h1,h2,h3,h4,λj c hc=>⟨(h5 j c hc).1,(h5 j c hc).2.mono M⟩,λhz j hj=>.inl (h6 hz j hj),λhz o ho=>?_⟩;rcases ho with ho|⟨ho,-⟩;.exact h7 hz o ho
 exact h (hR.inj i id (bk hl (by simp)) (bk h0 (by simp)) ho)
def cE(w:World)(r:Nat)(o:Obj):World:={w with heap:=w.heap.setIfInBounds r o}
theorem gQ(w:World)(r:Nat)(o:Obj){b:Nat}(h:b≠r):(cE w r o).heap[b]? =w.heap[b]? :=by simp[cE,Ne.symm h]
theorem zU(w:World)(r:Nat)(o o0:Obj)(h:w.heap[r]? =some o0):(cE w r o).heap[r]? =some o:=by have:=cF h;simp[cE,this]
theorem R1{b:DB}{o:Obj}(hb:b.isObj=true)(h:uF x b o):∀arr e fr,o≠.cells arr e fr:=by rintro arr e fr rfl;cases b<;>simp_all [DB.isObj,uF]
theorem Rel.Vx (hR:Rel x){id:Nat}{b:DB}(h0:x.S[id]? =some b)(hb:b.isObj=true)(o:Nat):¬x.Fz (x.μ id) o:=by intro hf;obtain⟨ob,h1,h2⟩:=hR.eC id b h0 hb;obtain⟨v,hv⟩:=hR.Ae _ _ hf;have:=R1 hb h2;unfold World.cell? at hv;simp only[h1]at hv;cases ob<;>first|(exact this _ _ _ rfl)|simp at hv
def Cx.xq (x:Cx)(id:Nat)(o:Obj)(b:DB):Cx:=⟨cE x.w (x.μ id) o,x.μ,x.κ,x.Fz,x.S.set id b⟩
theorem A1{id:Nat}{o:Obj}{b0 b:DB}(hR:Rel x)(h0:x.S[id]? =some b0)(hl:b0.like b)(hd:b0≠.defer):bV x (x.xq id o b):=by
 have JL:=(uW hl).1;have bg:∀j,(x.xq id o b).S[j]? =if j=id then some b else x.S[j]? :=λj=>gW h0 b j
 refine⟨by show _<=(cE _ _ _).heap.size;simp[cE],⟨rfl,rfl⟩,λc p h=>⟨h,cell_of_block (gQ _ _ _ ?_) p⟩,λc p h=>.inl h,λc hc hn=>gQ _ _ _ λe=>hn id (bk h0 (fo JL)) e.symm,by show _<=(x.S.set _ _).length;simp,λi l iN=>⟨rfl,l,?_⟩,λi c iN hc=>⟨rfl,?_,λxg=>?_⟩,λt e s n ht=>⟨n,?_,ak _,λ_=>⟨rfl,rfl⟩⟩,λi hi=>.inl ⟨?_,rfl⟩,λt e s l z ht=>⟨l,z,?_,ak _,λe=>⟨rfl,e⟩,λ_=>⟨rfl,rfl⟩⟩⟩;.rintro rfl;exact hR.Vx h0 JL p h
 .rw[bg,if_neg (by rintro rfl;rw[h0]at iN;cases iN;cases JL)];exact iN
 .rw[bg];split;.rename_i e;subst e;rw[h0]at iN;cases iN;exact⟨b,rfl,hl⟩
  exact⟨c,iN,eV hc⟩
 .subst xg;refine gQ _ _ _ λe=>?_;have:=hR.inj i id (bk iN (by simp)) (bk h0 (fo JL)) e;subst this;rw[h0]at iN;cases iN;exact hd rfl
 .rw[bg,if_neg (by rintro rfl;rw[h0]at ht;cases ht;cases JL)];exact ht
 .obtain⟨c,hc,Fq⟩:=hi;rw[bg]at hc;split at hc;.rename_i e;subst e;exact bk h0 (fo JL)
  exact⟨c,hc,Fq⟩
 rw[bg,if_neg (by rintro rfl;rw[h0]at ht;cases ht;cases JL)];exact ht
theorem KN{id:Nat}{o:Obj}{b0 b:DB}(hR:Rel x)(h0:x.S[id]? =some b0)(hl:b0.like b)(hd:b0≠.defer)(ho:uF (x.xq id o b) b o):Rel (x.xq id o b):=by
 have M:=A1 (o:=o) hR h0 hl hd;have JL:=(uW hl).1;have hb:=(uW hl).2;have bg:∀j,(x.xq id o b).S[j]? =if j=id then some b else x.S[j]? :=λj=>gW h0 b j
 obtain⟨ob,hob,-⟩:=hR.eC id b0 h0 JL;have pI:∀i,Live (x.xq id o b).S i->Live x.S i:=λi ⟨c,hc,Fq⟩=>by
  rw[bg]at hc;split at hc;.rename_i e;subst e;exact bk h0 (fo JL)
  exact⟨c,hc,Fq⟩
 have HT:∀i,i≠id->Live x.S i->(cE x.w (x.μ id) o).heap[x.μ i]? =x.w.heap[x.μ i]? :=λi hi Ag=>gQ _ _ _ λe=>hi (hR.inj i id Ag (bk h0 (fo JL)) e);constructor
 .intro i l iN;rw[bg]at iN;by_cases h:i=id;.rw[if_pos h]at iN;cases iN;cases hb
  rw[if_neg h]at iN;obtain⟨a,e,h1,h2,h3⟩:=hR.cells i l iN;exact⟨a,e,(HT i h (bk iN (by simp))).trans h1,h2,λj c hc=>(h3 j c hc).mono M⟩
 .intro i e s n iN;rw[bg]at iN;by_cases h:i=id;.rw[if_pos h]at iN;cases iN;cases hb
  rw[if_neg h]at iN;obtain⟨a,h1,h2⟩:=hR.dR i e s n iN;exact⟨a,(HT i h (bk iN (by simp))).trans h1,h2⟩
 .intro i c iN hc;rw[bg]at iN;by_cases h:i=id;.subst h;rw[if_pos rfl]at iN;cases iN;exact⟨o,zU _ _ _ _ hob,ho⟩
  rw[if_neg h]at iN;obtain⟨o',h1,h2⟩:=hR.eC i c iN hc;exact⟨o',(HT i h (bk iN (fo hc))).trans h1,h2.mono M⟩
 .exactλi j hi hj he=>hR.inj i j (pI i hi) (pI j hj) he
 .intro c p h;obtain⟨v,hv⟩:=hR.Ae c p h;exact⟨v,(M.fz c p h).2.trans hv⟩
 .rintro i ⟨l,iN⟩ p hp;rw[bg]at iN;by_cases h:i=id;.rw[if_pos h]at iN;cases iN;cases hb
  rw[if_neg h]at iN;exact hR.sep i ⟨l,iN⟩ p hp
 .intro i e s n iN p hp;rw[bg]at iN;by_cases h:i=id;.rw[if_pos h]at iN;cases iN;cases hb
  rw[if_neg h]at iN;exact hR.oH i e s n iN p hp
 intro i e s l z iN;rw[bg]at iN;by_cases h:i=id;.rw[if_pos h]at iN;cases iN;cases hb
 rw[if_neg h]at iN;obtain⟨a,h1,h2,h3,h4,h5,h6⟩:=hR.ops i e s l z iN;exact⟨a,(HT i h (bk iN (by simp))).trans h1,h2,h3,h4,λj c hc=>⟨(h5 j c hc).1,(h5 j c hc).2.mono M⟩,h6⟩
theorem lB{r:Nat}{o o0:Obj}{w:World}(h:w.heap[r]? =some o0)(hn:∀arr e fr,o0≠.cells arr e fr):(setObj r o).run P w=.ok () (cE w r o):=by simp only[setObj,Sem.run,h];cases o0<;>first|rfl|exact absurd rfl (hn _ _ _)
theorem jI{r:Nat}{o0:Obj}{w:World}(h:w.heap[r]? =some o0)(hn:∀arr e fr,o0≠.cells arr e fr):(getObj r).run P w=.ok o0 w:=by unfold getObj Sem.run;rw[h];cases o0<;>first|rfl|exact absurd rfl (hn _ _ _)
end Go.Di
namespace Go.Di
open Go
variable {P:Program} {ty:fR} {x:Cx} {w':World}
theorem qi{t:TypeId}{i:TypeInfo}(h:Gf P t=some i):P.info? t=some i/\∃d,P.underlying t=some d:=by
 unfold Gf at h;split at h;.rename_i i' d h1 h2;cases h;exact⟨h1,d,h2⟩
 cases h
theorem b9{t:TypeId}{k:TK}{sz:Nat}{z:Option (List DV)}(h:Tz P t=some ⟨k,sz,z⟩):Fw P t=some k/\∃i,P.info? t=some i/\i.size=sz/\zeroOf i=z:=by
 unfold Tz at h;split at h;.rename_i k' i h1 h2;cases h;exact⟨h1,i,h2,rfl,rfl⟩
 cases h
theorem jO{i:TypeInfo}{cs:List DV}(h:zeroOf i=some cs):∃z,i.zero=some z/\sO z.cells.toList=some cs/\cs.length=i.size:=by
 unfold zeroOf at h;split at h
 .rename_i z hz;split at h
  .rename_i lC hc;split at h;.cases h;exact⟨z,hz,hc,‹_›⟩
   cases h
  cases h
 cases h
theorem mE{t:TypeId}{e s b:Nat}{agg:Bool}(h:Fw P t=some (.slice e s b agg)):P.underlying t=some (.slice e)/\∃i,P.info? e=some i/\i.size=s/\i.bytes=b/\pV P e=agg:=by
 unfold Fw at h;split at h;.simp only[af]at h;obtain⟨_,_,h⟩:=h;cases h
 .simp only[af]at h;obtain⟨_,_,h⟩:=h;cases h
 .rename_i e' he;simp only[af]at h;obtain⟨i,h1,h⟩:=h;cases h;exact⟨he,i,(qi h1).1,rfl,rfl,rfl⟩
 .cases h
 cases h
theorem zk{t:TypeId}{n s:Nat}{agg:Bool}(h:Fw P t=some (.array n s agg)):∃e,P.underlying t=some (.array n e)/\∃i,P.info? e=some i/\i.size=s/\pV P e=agg/\∃d0,P.underlying e=some d0:=by
 unfold Fw at h;split at h;.simp only[af]at h;obtain⟨_,_,h⟩:=h;cases h
 .rename_i m e' he;simp only[af]at h;obtain⟨i,h1,h⟩:=h;cases h;exact⟨e',he,i,(qi h1).1,rfl,rfl,(qi h1).2⟩
 .simp only[af]at h;obtain⟨_,_,h⟩:=h;cases h
 .cases h
 cases h
def Jg(P:Program)(f:Field)(r:Nat×Nat×Bool):Prop:=f.offset=r.1/\∃i,P.info? f.type=some i/\i.size=r.2.1/\pV P f.type=r.2.2/\∃d0,P.underlying f.type=some d0
theorem BZ:∀{l:List Field}{fs:List (Nat×Nat×Bool)},(l.mapM λf=>(Gf P f.type).map λi=>(f.offset,i.size,pV P f.type))=some fs->l.length=fs.length/\∀(j:Nat)(r:Nat×Nat×Bool),fs[j]? =some r->∃f,l[j]? =some f/\Jg P f r
 |[],fs,h=>by
  have:fs=[]:=by simpa using h.symm
  subst this;simp
 |f::l,fs,h=>by
  simp only[List.mapM_cons,Option.bind_eq_bind,qO,af,Option.pure_def,aB]at h;obtain⟨r,⟨i,h1,rfl⟩,xh,h2,rfl⟩:=h;obtain⟨h3,h4⟩:=BZ h2;refine⟨by simp[h3],λj r hr=>?_⟩;cases j with
  |zero=>simp only[bY,aB]at hr;subst hr;exact⟨f,rfl,rfl,i,(qi h1).1,rfl,rfl,(qi h1).2⟩
  |succ j=>simpa using h4 j r (by simpa using hr)
theorem AK{t:TypeId}{fs:List (Nat×Nat×Bool)}(h:Fw P t=some (.struct fs)):∃fields:Array Field,P.underlying t=some (.struct fields)/\fields.size=fs.length/\∀(j:Nat)(r:Nat×Nat×Bool),fs[j]? =some r->∃f,fields[j]? =some f/\Jg P f r:=by
 unfold Fw at h;split at h;.rename_i fields he;simp only[af]at h;obtain⟨xh,h1,h⟩:=h;cases h;obtain⟨h2,h3⟩:=BZ h1;exact⟨fields,he,by simpa using h2,λj r hr=>by simpa using h3 j r hr⟩
 .simp only[af]at h;obtain⟨_,_,h⟩:=h;cases h
 .simp only[af]at h;obtain⟨_,_,h⟩:=h;cases h
 .cases h
 cases h
theorem MV{t:TypeId}{k:TK}(h:Fw P t=some k):k.isAgg=pV P t/\∃d,P.underlying t=some d:=by
 unfold Fw at h;unfold pV;split at h;.rename_i fields he;simp only[af]at h;obtain⟨_,_,rfl⟩:=h;rw[he];exact⟨rfl,_,rfl⟩
 .rename_i n e he;simp only[af]at h;obtain⟨_,_,rfl⟩:=h;rw[he];exact⟨rfl,_,rfl⟩
 .rename_i e he;simp only[af]at h;obtain⟨_,_,rfl⟩:=h;rw[he];exact⟨rfl,_,rfl⟩
 .rename_i d h1 h2 h3 he;cases h;rw[he];refine⟨?_,_,rfl⟩;cases d with
  |struct fs=>exact(h1 fs rfl).elim
  |array n e=>exact(h2 n e rfl).elim
  |_=>rfl
 cases h
theorem vW{t:TypeId}{d:TypeDesc}(h:P.underlying t=some d)(w:World):(isAgg t).run P w=.ok (pV P t) w:=by unfold isAgg pV;simp only[Sem.run_bind,run_underlying h,Result.andThen_ok,h];cases d<;>rfl
theorem run_sizeOf{t:TypeId}{i:TypeInfo}(h:P.info? t=some i)(w:World):(sizeOf t).run P w=.ok i.size w:=by simp[sizeOf,typeInfo,h]
theorem Pe{l:List DV}{v:Value}(h:RV x (.agg l) v):∃vs,v=.agg vs/\ia x l vs:=by cases h with|agg h hl=>exact⟨_,rfl,h,hl⟩
theorem Em{s:Nat}:∀{rows:List DV},(∀r∈rows,r.cells.length=s)->∀{i:Nat}{r:DV},rows[i]? =some r->∀{j:Nat},j<s->(flat rows)[i*s+j]? =r.cells[j]?
 |[],_,i,r,h,_,_=>by simp at h
 |r0::rows,hs,i,r,h,j,hj=>by
  have h0:r0.cells.length=s:=hs r0 (by simp);simp only[flat,cT];cases i with
  |zero=>simp only[bY,aB]at h;subst h;rw[ee (by omega)];simp
  |succ i=>
   have he:(i+1)*s+j=s+(i*s+j):=by rw[mo];omega
   rw[he,iI (by omega),h0,qN];exact Em (rows:=rows) (λr hr=>hs r (by simp[hr])) (by simpa using h) hj
theorem jG{s:Nat}:∀{rows:List DV},(∀r∈rows,r.cells.length=s)->(flat rows).length=rows.length*s
 |[],_=>by simp[flat]
 |r::rows,h=>by have:=jG (rows:=rows) λr hr=>h r (by simp[hr]);have h0:=h r (by simp);simp only[flat]at this;simp only[flat,cT,bU,this,h0,dN,mo];omega
theorem iS(b o n:Nat):(⟨b,o,none⟩:Addr).add n=⟨b,o+n,none⟩:=by unfold Addr.add;split<;>simp_all
theorem Hq{l cs:List DV}{off n:Nat}(h:TU l off n=some cs):cs.length=n/\off+n<=l.length/\∀j,j<n->cs[j]? =l[off+j]? :=by
 unfold TU at h;split at h;.cases h;refine⟨by simp;omega,‹_›,λj hj=>?_⟩;rw[qJ,if_pos hj,vN]
 cases h
theorem A5{t:TypeId}{i:TypeInfo}{d0:TypeDesc}{b o off size:Nat}{agg:Bool}{l:List DV}{d:DV}(hi:P.info? t=some i)(hu:P.underlying t=some d0)(hs:i.size=size)(ha:pV P t=agg)
  (hc:∀j c,l[j]? =some c->∃v,x.w.cell? ⟨b,o+j,none⟩=some v/\RV x c v) (h:pO agg size l off=some d):∃v,(loadVar t ⟨b,o+off,none⟩).run P x.w=.ok v x.w/\RV x d v:=by
 unfold pO at h;subst ha;cases HH:pV P t with
 |true=>
  rw[HH,if_pos rfl,af]at h;obtain⟨cs,h1,rfl⟩:=h;obtain⟨h2,h3,h4⟩:=Hq h1;have hf:∀j,j<size->∃v,x.w.cell? ⟨b,o+off+j,none⟩=some v/\∀c,cs[j]? =some c->RV x c v:=by
   intro j hj;have hlt:off+j<l.length:=by omega
   obtain⟨v,k1,k2⟩:=hc (off+j) l[off+j] (bP hlt);refine⟨v,by rw[eE];exact k1,λc om=>?_⟩;rw[h4 j hj,bP hlt]at om;cases om;exact k2
  let f:Nat->Value:=λj=>if hj:j<size then(hf j hj).choose else undef
  have Ms:∀j,j<size->x.w.cell? ⟨b,o+off+j,none⟩=some (f j):=λj hj=>by simp only[f,dif_pos hj];exact(hf j hj).choose_spec.1
  have Tk:∀j,j<size->∀c,cs[j]? =some c->RV x c (f j):=λj hj=>by simp only[f,dif_pos hj];exact(hf j hj).choose_spec.2
  refine⟨.agg ((List.range size).map f).toArray,?_,.agg (by simp[h2]) λj c om=>?_⟩;.unfold loadVar;simp only[Sem.run_bind,vW hu,HH,Result.andThen_ok,if_true,run_sizeOf hi,hs];rw[run_loadCells (P:=P) x.w ⟨b,o+off,none⟩ size f λj hj=>by rw[iS];exact Ms j hj];rfl
  have hj:j<size:=by have:=(aA.1 om).1;omega
  have:=Tk j hj c om;simpa [bz,hj]using this
 |false=>rw[HH]at h;simp only[aI,if_false]at h;obtain⟨v,k1,k2⟩:=hc off d h;refine⟨v,?_,k2⟩;unfold loadVar;simp only[Sem.run_bind,vW hu,HH,Result.andThen_ok,aI,if_false,run_load,k1]
theorem Px{t:TypeId}{i:TypeInfo}{d0:TypeDesc}{off size:Nat}{agg:Bool}{l:List DV}{arr:Array Value}{d:DV}(hi:P.info? t=some i)(hu:P.underlying t=some d0)(hs:i.size=size)(ha:pV P t=agg)
  (hc:ia x l arr) (h:pO agg size l off=some d) (w:World):∃v,(part t arr off).run P w=.ok v w/\RV x d v:=by
 unfold pO at h;subst ha;cases HH:pV P t with
 |true=>
  rw[HH,if_pos rfl,af]at h;obtain⟨cs,h1,rfl⟩:=h;obtain⟨h2,h3,h4⟩:=Hq h1;refine⟨.agg (arr.extract off (off+size)),?_,.agg (by simp[h2,hc.1];omega) λj c om=>?_⟩;.unfold part;simp only[Sem.run_bind,vW hu,HH,Result.andThen_ok,if_true,run_sizeOf hi,hs];rfl
  have hj:j<size:=by have:=(aA.1 om).1;omega
  rw[h4 j hj]at om;have:=hc.2 _ _ om;have hlt:off+j<arr.size:=by rw[hc.1];omega
  simp only[bz,Array.getElem?_extract]at this⊢;rw[if_pos (by omega)];exact this
 |false=>
  rw[HH]at h;simp only[aI,if_false]at h;have hlt:off<arr.size:=by rw[hc.1];exact(aA.1 h).1
  refine⟨arr[off],?_,by simpa [bz,hlt]using hc.2 _ _ h⟩;unfold part;simp only[Sem.run_bind,vW hu,HH,Result.andThen_ok,aI,if_false,ct hlt,Sem.run_pure]
theorem one_cell{d:DV}{v:Value}(h:RV x d v)(h1:d.one=true):v.oneCell'=true/\d.cells=[d]/\v.cells=#[v]:=by
 cases h with
 |@val v h=>
  cases v with
  |tuple vs=>simp[DV.one]at h1
  |agg vs=>simp[Aw]at h
  |_=>exact⟨rfl,rfl,rfl⟩
 |agg h hl=>simp[DV.one]at h1
 |tup h hl=>simp[DV.one]at h1
 |sl hv hr h1 h2 h3 hsp h4=>exact⟨rfl,rfl,rfl⟩
 |ptr h=>exact⟨rfl,rfl,rfl⟩
 |fq hv hr=>exact⟨rfl,rfl,rfl⟩
 |fn h1 h2 h3 h4=>exact⟨rfl,rfl,rfl⟩
 |map h=>exact⟨rfl,rfl,rfl⟩
 |od h=>exact⟨rfl,rfl,rfl⟩
 |jS h h1 h2=>exact⟨rfl,rfl,rfl⟩
 |gu h h1 h2=>exact⟨rfl,rfl,rfl⟩
theorem uP{d:DV}{v:Value}(h:RV x d v):ia x d.cells v.cells:=by
 have key:d.cells=[d]->v.cells=#[v]->ia x d.cells v.cells:=λh1 h2=>by
  rw[h1,h2];refine⟨rfl,λj c hc=>?_⟩;cases j with
  |zero=>simp only[bY,aB]at hc;subst hc;exact h
  |succ j=>simp at hc
 cases h with
 |agg h hl=>exact⟨h,hl⟩
 |@val v h=>
  cases v with
  |agg vs=>simp[Aw]at h
  |_=>exact key rfl rfl
 |_=>exact key rfl rfl
theorem cells_one{d:DV}{v:Value}(h:RV x d v)(h1:d.cells.all DV.one=true):∀u∈v.cells.toList,u.oneCell'=true:=by
 intro u hu;have hc:=uP h;obtain⟨j,hj,rfl⟩:=List.mem_iff_getElem.1 hu;have wv:j<d.cells.length:=by rw[<-hc.1];simpa using hj
 have h2:=hc.2 j d.cells[j] (bP wv);have h3:d.cells[j].one=true:=aX.1 h1 _ (sU wv);have h4:=(one_cell h2 h3).1;have hj2:j<v.cells.size:=by simpa using hj
 simpa [bz,hj2]using h4
theorem rW{l cs l':List DV}{off:Nat}(h:wA l off cs=some l'):off+cs.length<=l.length/\l'=l.take off++cs++l.drop (off+cs.length):=by
 unfold wA at h;split at h;.cases h;exact⟨‹_›,rfl⟩
 cases h
theorem IW{l cs:List DV}{arr vs:Array Value}{off:Nat}(hle:l.length<=arr.size)(ha:∀j c,l[j]? =some c->RV x c (arr.getD j undef))(hv:ia x cs vs)(h1:off<=l.length)(h2:off+cs.length<=arr.size):
  ∀j c,(l.take off++cs++l.drop (off+cs.length))[j]? =some c->RV x c ((arr.toList.take off++vs.toList++arr.toList.drop (off+vs.size)).toArray.getD j undef):=by
 intro j c hc;have e2:=hv.1;simp only[bz,List.getElem?_toArray];by_cases c1:j<off;.rw[jm,ee (by simp;omega),qJ,if_pos c1]at hc⊢;have:=ha j c hc;simpa [bz]using this
 by_cases c2:j<off+cs.length
 .rw[ee (by simp;omega),iI (by simp;omega)]at hc⊢;have e3:(l.take off).length=off:=by simp;omega
  have e4:(arr.toList.take off).length=off:=by simp;omega
  rw[e3]at hc;rw[e4];have:=hv.2 _ _ hc;simpa [bz]using this
 have e3:(l.take off++cs).length=off+cs.length:=by simp;omega
 have e4:(arr.toList.take off++vs.toList).length=off+cs.length:=by simp;omega
 rw[iI (by omega),e3,vN]at hc;rw[iI (by omega),e4,vN];have e5:off+vs.size+(j-(off+cs.length))=off+cs.length+(j-(off+cs.length)):=by omega
 rw[e5];have:=ha _ c hc;simpa [bz]using this
theorem Pd{l cs l':List DV}{arr vs:Array Value}{off:Nat}(hl:ia x l arr)(hv:ia x cs vs)(h:wA l off cs=some l'):ia x l' (arr.toList.take off++vs.toList++arr.toList.drop (off+vs.size)).toArray:=by obtain⟨h1,rfl⟩:=rW h;have e1:=hl.1;have e2:=hv.1;exact⟨by simp;omega,IW (by omega) hl.2 hv (by omega) (by omega)⟩
theorem mF{S:ai}{id n e s:Nat}{l:List DV}{z:Bool}(h:CE S id n=some (e,s,l,z)):S[id]? =some (.op e s l z)/\n*s=l.length:=by
 unfold CE at h;split at h
 .rename_i e' s' l' z' hS;split at h;.cases h;exact⟨hS,‹_›⟩
  cases h
 cases h
theorem RH{c:DV}(h:c.ck=true):c.one=true:=by cases c<;>simp_all [DV.ck,DV.one]
end Go.Di
