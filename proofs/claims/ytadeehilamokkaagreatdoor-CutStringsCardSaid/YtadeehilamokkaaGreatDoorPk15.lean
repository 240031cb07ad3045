import Derived.Test.YtadeehilamokkaaGreatDoorPk14
namespace Go.Di
open Go
variable {P:Program} {ty:fo} {x:Cx} {w':World}
def Cx.froze (x:Cx)(w':World)(F:Nat->Prop):Cx:=⟨w',x.μ,x.κ,λc o=>x.Fz c o\/(c=x.w.heap.size/\F o),x.S⟩
theorem mQ{F:Nat->Prop}{ob:Obj}(hR:Rel x)(hp:oz x.w w' ob):bE x (x.froze w' F) where
 size:=by show _<=w'.heap.size;rw[hp.heap];simp
 env:=hp.env
 fz:=λc o h=>⟨.inl h,cell_of_block (hp.lt (hR.wM h)) o⟩
 HS:=λc o h=>by
  rcases h with h|h
  grind
  grind
 old:=λc hc _=>hp.lt hc
 len:=ai _
 cells:=λid l hl=>⟨rfl,l,hl⟩
 dA:=λid c hl hc=>⟨rfl,⟨c,hl,dL hc⟩,λ_=>by obtain⟨o,h1,-⟩:=hR.dA id c hl hc;exact hp.lt (cA h1)⟩
 cU:=λt e s n ht=>⟨n,ht,ai _,λ_=>⟨rfl,rfl⟩⟩
 live:=λi hi=>.inl ⟨hi,rfl⟩
 ops:=λ_ _ _ l z h=>⟨l,z,h,ai _,λe=>⟨rfl,e⟩,λ_=>⟨rfl,rfl⟩⟩
theorem GR{F:Nat->Prop}{ob:Obj}(hR:Rel x)(hp:oz x.w w' ob)(hF:∀o,F o->∃v,w'.cell? ⟨x.w.heap.size,o,none⟩=some v):Rel (x.froze w' F) where
 cells:=λid l hl=>by obtain⟨arr,e,h1,h2,h3⟩:=hR.cells id l hl;exact⟨arr,e,(hp.lt (cA h1)).trans h1,h2,λj c hc=>(h3 j c hc).mono (mQ hR hp)⟩
 cU:=λid e s n hl=>by obtain⟨arr,h1,h2⟩:=hR.cU id e s n hl;exact⟨arr,(hp.lt (cA h1)).trans h1,h2⟩
 dA:=λid c hl hc=>by obtain⟨o,h1,h2⟩:=hR.dA id c hl hc;exact⟨o,(hp.lt (cA h1)).trans h1,h2.mono (mQ hR hp)⟩
 inj:=hR.inj
 xg:=λc o h=>by rcases h with h|⟨rfl,h⟩;obtain⟨v,hv⟩:=hR.xg c o h;exact⟨v,(cell_of_block (hp.lt (hR.wM h)) o).trans hv⟩;exact hF o h
 sep:=λid ⟨l,hl⟩ o ho=>by rcases ho with ho|⟨ho,-⟩;exact hR.sep id ⟨l,hl⟩ o ho;have:x.μ id<x.w.heap.size:=hR.jH (bh hl ae);have ho:x.μ id=x.w.heap.size:=ho;omega
 nB:=λid e s n hl o ho=>by rcases ho with ho|⟨ho,-⟩;exact hR.nB id e s n hl o ho;have:x.μ id<x.w.heap.size:=hR.jH (bh hl ae);have ho:x.μ id=x.w.heap.size:=ho;omega
 ops:=λid e s l z hl=>by obtain⟨arr,h1,h2,h3,h4,h5,h6,h7⟩:=hR.ops id e s l z hl;refine⟨arr,(hp.lt (cA h1)).trans h1,h2,h3,h4,λj c hc=>⟨(h5 j c hc).1,(h5 j c hc).2.mono (mQ hR hp)⟩,λhz j hj=>.inl (h6 hz j hj),λhz o ho=>?_⟩;rcases ho with ho|⟨ho,-⟩;exact h7 hz o ho;have:x.μ id<x.w.heap.size:=hR.jH (bh hl ae);have ho:x.μ id=x.w.heap.size:=ho;omega
 glob:=hR.glob.keep (mQ hR hp).fz
def Cx.upd (x:Cx)(id:Nat)(arr:Array Value)(F:Nat->Prop)(b:DB):Cx:=⟨x.w.setRow (x.μ id) arr,x.μ,x.κ,λc o=>x.Fz c o\/(c=x.μ id/\F o),x.S.set id b⟩
theorem gK{S:aj}{id:Nat}{b0:DB}(h:S[id]? =some b0)(b:DB)(j:Nat):(S.set id b)[j]? =if j=id then some b else S[j]? :=by grind
theorem uA{id:Nat}{arr:Array Value}{F:Nat->Prop}{b0 b:DB}(hR:Rel x)(h0:x.S[id]? =some b0)
  (hb:(∃l l',b0=.cells l/\b=.cells l')\/(∃e s n n',b0=.tail e s n/\b=.tail e s n'/\n<=n'/\∀o,o<n->(x.w.setRow (x.μ id) arr).cell? ⟨x.μ id,o,none⟩=x.w.cell? ⟨x.μ id,o,none⟩)\/(∃e s l l',b0=.op e s l false/\b=.op e s l' false/\l.length<=l'.length)):bE x (x.upd id arr F b):=by
 have FO:b0≠.none:=by rcases hb with ⟨l,l',rfl,-⟩|⟨e,s,n,n',rfl,-⟩|⟨e,s,l,l',rfl,-⟩<;>simp
 have hne:b≠.none:=by rcases hb with ⟨l,l',-,rfl⟩|⟨e,s,n,n',-,rfl,-⟩|⟨e,s,l,l',-,rfl,-⟩<;>simp
 have aR:∀j,(x.upd id arr F b).S[j]? =if j=id then some b else x.S[j]? :=λj=>gK h0 b j
 refine⟨by show _<=(x.w.setRow _ _).heap.size;rw[setRow_size];exact ai _,⟨rfl,rfl⟩,λc o h=>⟨.inl h,?_⟩,λc o h=>?_,λc hc hn=>?_,by show _<=(x.S.set _ _).length;simp,λi l hl=>⟨rfl,?_⟩,λi c hl hc=>⟨rfl,?_,?_⟩,λt e s n ht=>?_,λi hi=>.inl ⟨?_,rfl⟩,λt e s l z ht=>?_⟩;show(x.w.setRow _ _).cell? _=_;by_cases hc:c=x.μ id;subst hc;rcases hb with ⟨l,l',rfl,-⟩|⟨e,s,n,n',rfl,-,-,hk⟩|⟨e,s,l,l',rfl,-⟩;exact absurd h (hR.sep id ⟨l,h0⟩ o);exact hk o (hR.nB id e s n h0 o h);obtain⟨-,-,-,-,-,-,-,k⟩:=hR.ops id e s l false h0;exact absurd h (k rfl o);exact cell_setRow_other _ _ _ _ hc;rcases h with h|⟨rfl,-⟩
 grind
 exact .inr (.inr ⟨id,bh h0 FO,rfl⟩);exact setRow_other _ _ _ _ λe=>hn id (bh h0 FO) e.symm
 grind
 rw[aR];split;rename_i e;subst e;rw[h0]at hl;cases hl;rcases hb with ⟨l,l',h1,-⟩|⟨e,s,n,n',h1,-⟩|⟨e,s,l,l',h1,-⟩<;>(subst h1;cases hc);exact⟨c,hl,dL hc⟩;rintro rfl;refine setRow_other _ _ _ _ λe=>?_;have:=hR.inj i id (bh hl ae) (bh h0 FO) e;subst this;rw[h0]at hl;cases hl;rcases hb with ⟨l,l',h1,-⟩|⟨e,s,n,n',h1,-⟩|⟨e,s,l,l',h1,-⟩<;>cases h1;by_cases e1:t=id;subst e1;rw[h0]at ht;cases ht;rcases hb with ⟨l,l',h1,-⟩|⟨e,s,n,n',h1,rfl,h3,-⟩|⟨e,s,l,l',h1,-⟩;cases h1;cases h1;exact⟨n',by rw[aR,if_pos rfl],h3,λ_=>⟨rfl,rfl⟩⟩;cases h1;exact⟨n,by rw[aR,if_neg e1];exact ht,ai _,λ_=>⟨rfl,rfl⟩⟩;obtain⟨c,hc,FF⟩:=hi;rw[aR]at hc;split at hc;rename_i e;subst e;exact bh h0 FO
 exact⟨c,hc,FF⟩;by_cases e1:t=id;subst e1;rw[h0]at ht;cases ht;rcases hb with ⟨l,l',h1,-⟩|⟨e,s,n,n',h1,-⟩|⟨e,s,l,l',h1,rfl,h3⟩;cases h1;cases h1;cases h1;exact⟨l',false,by rw[aR,if_pos rfl],h3,ae,λ_=>⟨rfl,rfl⟩⟩;exact⟨l,z,by rw[aR,if_neg e1];exact ht,ai _,λe=>⟨rfl,e⟩,λ_=>⟨rfl,rfl⟩⟩
theorem C1{id:Nat}{arr:Array Value}{F:Nat->Prop}{b0 b:DB}(hR:Rel x)(h0:x.S[id]? =some b0)
  (hb:(∃l l',b0=.cells l/\b=.cells l'/\(∀o,¬F o)/\arr.size=l'.length/\∀j c,l'[j]? =some c->RV x c (arr.getD j undef))\/
   (∃e s n n',b0=.tail e s n/\b=.tail e s n'/\n<=n'/\(∀o,o<n->(x.w.setRow (x.μ id) arr).cell? ⟨x.μ id,o,none⟩=x.w.cell? ⟨x.μ id,o,none⟩)/\arr.size=x.κ id*s/\n'<=arr.size/\∀o,F o->o<n')\/
   (∃e s l l',b0=.op e s l false/\b=.op e s l' false/\l.length<=l'.length/\(∀o,¬F o)/\arr.size=x.κ id*s/\l'.length<=arr.size/\∀j c,l'[j]? =some c->c.bU=true/\RV x c (arr.getD j undef))):Rel (x.upd id arr F b):=by
 have rQ:(∃l l',b0=.cells l/\b=.cells l')\/(∃e s n n',b0=.tail e s n/\b=.tail e s n'/\n<=n'/\∀o,o<n->(x.w.setRow (x.μ id) arr).cell? ⟨x.μ id,o,none⟩=x.w.cell? ⟨x.μ id,o,none⟩)\/(∃e s l l',b0=.op e s l false/\b=.op e s l' false/\l.length<=l'.length):=by grind
 have M:=uA (F:=F) hR h0 rQ;have FO:b0≠.none:=by rcases hb with ⟨l,l',rfl,-⟩|⟨e,s,n,n',rfl,-⟩|⟨e,s,l,l',rfl,-⟩<;>simp
 have aR:∀j,(x.upd id arr F b).S[j]? =if j=id then some b else x.S[j]? :=λj=>gK h0 b j
 have hold:∃old e,x.w.heap[x.μ id]? =some (.cells old e (0,0))/\(∀e' s n,b0=.tail e' s n->e=e'/\x.κ id<=maxLen)/\∀e' s l z,b0=.op e' s l z->e=e'/\x.κ id<=maxLen:=by rcases hb with ⟨l,l',rfl,-⟩|⟨e,s,n,n',rfl,-⟩|⟨e,s,l,l',rfl,-⟩;obtain⟨a,e,h1,-⟩:=hR.cells id l h0;exact⟨a,e,h1,ae,ae⟩;obtain⟨a,h1,-,-,h4⟩:=hR.cU id e s n h0;exact⟨a,e,h1,λe' s' n' h=>by cases h;exact⟨rfl,h4⟩,ae⟩;obtain⟨a,h1,-,-,h4,-⟩:=hR.ops id e s l false h0;exact⟨a,e,h1,ae,λe' s' l' z h=>by cases h;exact⟨rfl,h4⟩⟩
 obtain⟨old,e0,hh,he0,he1⟩:=hold;have ye:(x.w.setRow (x.μ id) arr).heap[x.μ id]? =some (.cells arr e0 (0,0)):=setRow_heap _ _ _ _ _ _ hh;have oZ:∀i,Live (x.upd id arr F b).S i->Live x.S i:=λi hi=>by
  rcases M.live i hi with ⟨h,-⟩|h;exact h;obtain⟨c,hc,FF⟩:=hi;rw[aR]at hc;split at hc;rename_i e;subst e;exact bh h0 FO
  exact⟨c,hc,FF⟩
 have FN:∀i,i≠id->Live x.S i->(x.w.setRow (x.μ id) arr).heap[x.μ i]? =x.w.heap[x.μ i]? :=λi hi hl=>setRow_other _ _ _ _ λe=>hi (hR.inj i id hl (bh h0 FO) e);constructor
 case glob=>exact hR.glob.keep M.fz
 intro i l hl;rw[aR]at hl;by_cases h:i=id;subst h;rw[if_pos rfl]at hl;cases hl;rcases hb with ⟨l0,l',h1,h2,h3,h4,h5⟩|⟨e,s,n,n',h1,h2,-⟩|⟨e,s,l,l',h1,h2,-⟩;cases h2;exact⟨arr,e0,ye,h4,λj c hc=>(h5 j c hc).mono M⟩;cases h2;cases h2;rw[if_neg h]at hl;obtain⟨a,e,h1,h2,h3⟩:=hR.cells i l hl;exact⟨a,e,(FN i h (bh hl ae)).trans h1,h2,λj c hc=>(h3 j c hc).mono M⟩;intro i e s n hl;rw[aR]at hl;by_cases h:i=id;subst h;rw[if_pos rfl]at hl;cases hl;rcases hb with ⟨l0,l',h1,h2,-⟩|⟨e',s',m,m',h1,h2,h3,h4,h5,h6,h7⟩|⟨e,s,l,l',h1,h2,-⟩;cases h2;cases h2;obtain⟨k1,k2⟩:=he0 _ _ _ h1;subst k1;exact⟨arr,ye,h5,h6,k2⟩;cases h2;rw[if_neg h]at hl;obtain⟨a,h1,h2⟩:=hR.cU i e s n hl;exact⟨a,(FN i h (bh hl ae)).trans h1,h2⟩;intro i c hl hc;rw[aR]at hl;by_cases h:i=id;subst h;rw[if_pos rfl]at hl;cases hl;rcases hb with ⟨l0,l',h1,h2,-⟩|⟨e',s',m,m',h1,h2,-⟩|⟨e,s,l,l',h1,h2,-⟩<;>(subst h2;cases hc);rw[if_neg h]at hl;obtain⟨o,h1,h2⟩:=hR.dA i c hl hc;exact⟨o,(FN i h (bh hl (eT hc))).trans h1,h2.mono M⟩;exactλi j hi hj he=>hR.inj i j (oZ i hi) (oZ j hj) he;intro c o h;rcases h with h|⟨rfl,h⟩;obtain⟨v,hv⟩:=hR.xg c o h;exact⟨v,(M.fz c o h).2.trans hv⟩;rcases hb with ⟨l0,l',-,-,h3,-⟩|⟨e',s',m,m',-,-,-,-,h5,h6,h7⟩|⟨e,s,l,l',-,-,-,h3,-⟩
 grind
 have:=h7 o h;refine⟨arr[o]' ab,?_⟩;show(x.w.setRow _ _).cell? _=_;rw[cell_setRow_same _ _ _ _ _ _ _ hh];exact b7 _
 grind
 rintro i ⟨l,hl⟩ o ho;rw[aR]at hl;by_cases h:i=id;subst h;rw[if_pos rfl]at hl;cases hl;rcases hb with ⟨l0,l',h1,h2,h3,-⟩|⟨e',s',m,m',h1,h2,-⟩|⟨e,s,l,l',h1,h2,-⟩;subst h1;rcases ho with ho|⟨-,ho⟩;exact hR.sep i ⟨l0,h0⟩ o ho
 grind
 cases h2;cases h2;rw[if_neg h]at hl;rcases ho with ho|⟨ho,-⟩;exact hR.sep i ⟨l,hl⟩ o ho;exact h (hR.inj i id (bh hl ae) (bh h0 FO) ho);intro i e s n hl o ho;rw[aR]at hl;by_cases h:i=id;subst h;rw[if_pos rfl]at hl;cases hl;rcases hb with ⟨l0,l',h1,h2,-⟩|⟨e',s',m,m',h1,h2,h3,-,-,-,h7⟩|⟨e,s,l,l',h1,h2,-⟩;cases h2;cases h2;subst h1;rcases ho with ho|⟨-,ho⟩;exact cK (hR.nB i _ _ _ h0 o ho) h3
 grind
 cases h2;rw[if_neg h]at hl;rcases ho with ho|⟨ho,-⟩;exact hR.nB i e s n hl o ho;exact(h (hR.inj i id (bh hl ae) (bh h0 FO) ho)).elim;intro i e s l z hl;rw[aR]at hl;by_cases h:i=id;subst h;rw[if_pos rfl]at hl;cases hl;rcases hb with ⟨l0,l',h1,h2,-⟩|⟨e',s',m,m',h1,h2,-⟩|⟨e',s',l0,l',h1,h2,h3,h4,h5,h6,h7⟩;cases h2;cases h2;cases h2;obtain⟨k1,k2⟩:=he1 _ _ _ _ h1;subst k1;refine⟨arr,ye,h5,h6,k2,λj c hc=>⟨(h7 j c hc).1,(h7 j c hc).2.mono M⟩,ae,λ_ o ho=>?_⟩;rcases ho with ho|⟨-,ho⟩;subst h1;obtain⟨-,-,-,-,-,-,-,k⟩:=hR.ops i _ _ _ _ h0;exact k rfl o ho
 grind
 rw[if_neg h]at hl;obtain⟨a,h1,h2,h3,h4,h5,h6,h7⟩:=hR.ops i e s l z hl;refine⟨a,(FN i h (bh hl ae)).trans h1,h2,h3,h4,λj c hc=>⟨(h5 j c hc).1,(h5 j c hc).2.mono M⟩,λhz j hj=>.inl (h6 hz j hj),λhz o ho=>?_⟩;rcases ho with ho|⟨ho,-⟩;exact h7 hz o ho;exact h (hR.inj i id (bh hl ae) (bh h0 FO) ho)
def Cx.kF (x:Cx)(w':World)(t k:Nat)(F:Nat->Prop)(b:DB):Cx:=
 ⟨w',λi=>if i=t then x.w.heap.size else x.μ i,λi=>if i=t then k else x.κ i,λc o=>x.Fz c o\/(c=x.w.heap.size/\F o),x.S.set t b⟩
theorem Fb{t k:Nat}{F:Nat->Prop}{ob:Obj}{e:TypeId}{s n n':Nat}(hR:Rel x)(h0:x.S[t]? =some (.tail e s n))(hp:oz x.w w' ob)(hlt:n<n'):bE x (x.kF w' t k F (.tail e s n')):=by
 have aR:∀j,(x.kF w' t k F (.tail e s n')).S[j]? =if j=t then some (.tail e s n')else x.S[j]? :=λj=>gK h0 _ j
 refine⟨by show _<=w'.heap.size;rw[hp.heap];simp,hp.env,λc o h=>⟨.inl h,cell_of_block (hp.lt (hR.wM h)) o⟩,λc o h=>?_,λc hc _=>hp.lt hc,by show _<=(x.S.set _ _).length;simp,λi l hl=>?_,λi c hl hc=>?_,λi e1 s1 n1 hl=>?_,λi hi=>?_,λi e1 s1 l z hl=>?_⟩;rcases h with h|h
 grind
 grind
 have hne:i≠t:=by rintro rfl;rw[h0]at hl;cases hl
 exact⟨if_neg hne,l,by rw[aR,if_neg hne];exact hl⟩;have hne:i≠t:=by rintro rfl;rw[h0]at hl;cases hl;cases hc
 exact⟨if_neg hne,⟨c,by rw[aR,if_neg hne];exact hl,dL hc⟩,λ_=>by obtain⟨o,h1,-⟩:=hR.dA i c hl hc;exact hp.lt (cA h1)⟩;by_cases hne:i=t
 grind
 exact⟨n1,by rw[aR,if_neg hne];exact hl,ai _,λ_=>⟨if_neg hne,if_neg hne⟩⟩;by_cases hne:i=t;right;subst hne;show _<=(if _ then _ else _);rw[if_pos rfl];exact ai _;left;obtain⟨c,hc,FF⟩:=hi;rw[aR,if_neg hne]at hc;exact⟨⟨c,hc,FF⟩,if_neg hne⟩;have hne:i≠t:=by rintro rfl;rw[h0]at hl;cases hl
 exact⟨l,z,by rw[aR,if_neg hne];exact hl,ai _,λe=>⟨rfl,e⟩,λ_=>⟨if_neg hne,if_neg hne⟩⟩
theorem SL{t k:Nat}{F:Nat->Prop}{e:TypeId}{s n n':Nat}{arr:Array Value}(hR:Rel x)(h0:x.S[t]? =some (.tail e s n))(hp:oz x.w w' (.cells arr e (0,0)))(hlt:n<n')
  (hs:arr.size=k*s) (hn:n'<=arr.size) (hk:k<=maxLen) (hF:∀o,F o->o<n'):Rel (x.kF w' t k F (.tail e s n')):=by
 have M:=Fb (k:=k) (F:=F) hR h0 hp hlt;have aR:∀j,(x.kF w' t k F (.tail e s n')).S[j]? =if j=t then some (.tail e s n')else x.S[j]? :=λj=>gK h0 _ j
 have hμ:∀i,i≠t->(x.kF w' t k F (.tail e s n')).μ i=x.μ i:=λi h=>if_neg h;have hκ:∀i,i≠t->(x.kF w' t k F (.tail e s n')).κ i=x.κ i:=λi h=>if_neg h;have hμn:(x.kF w' t k F (.tail e s n')).μ t=x.w.heap.size:=if_pos rfl;have hκn:(x.kF w' t k F (.tail e s n')).κ t=k:=if_pos rfl;have oZ:∀i,Live (x.kF w' t k F (.tail e s n')).S i->Live x.S i:=by
  rintro i ⟨c,hc,FF⟩;rw[aR]at hc;split at hc;rename_i h;subst h;exact bh h0 ae
  exact⟨c,hc,FF⟩
 constructor
 case glob=>exact hR.glob.keep M.fz
 intro i l hl;rw[aR]at hl;by_cases h:i=t
 grind
 rw[if_neg h]at hl;obtain⟨a,e,h1,h2,h3⟩:=hR.cells i l hl;rw[hμ i h];exact⟨a,e,(hp.lt (cA h1)).trans h1,h2,λj c hc=>(h3 j c hc).mono M⟩;intro i e1 s1 n1 hl;rw[aR]at hl;by_cases h:i=t;subst h;rw[if_pos rfl]at hl;cases hl;rw[hμn,hκn];exact⟨arr,hp.new,hs,hn,hk⟩;rw[if_neg h]at hl;obtain⟨a,h1,h2⟩:=hR.cU i e1 s1 n1 hl;rw[hμ i h,hκ i h];exact⟨a,(hp.lt (cA h1)).trans h1,h2⟩;intro i c hl hc;rw[aR]at hl;by_cases h:i=t;rw[if_pos h]at hl;cases hl;cases hc
 rw[if_neg h]at hl;obtain⟨o,h1,h2⟩:=hR.dA i c hl hc;rw[hμ i h];exact⟨o,(hp.lt (cA h1)).trans h1,h2.mono M⟩;intro i j hi hj he;by_cases h1:i=t;by_cases h2:j=t
 grind
 rw[h1,hμn,hμ j h2]at he;have:=hR.jH (oZ j hj);omega;by_cases h2:j=t;rw[h2,hμn,hμ i h1]at he;have:=hR.jH (oZ i hi);omega;rw[hμ i h1,hμ j h2]at he;exact hR.inj i j (oZ i hi) (oZ j hj) he;intro c o h;rcases h with h|⟨rfl,h⟩;obtain⟨v,hv⟩:=hR.xg c o h;exact⟨v,(M.fz c o h).2.trans hv⟩;have:=hF o h;refine⟨arr[o]' ab,?_⟩;show w'.cell? _=_;simp only[World.cell?,hp.new];exact b7 _;rintro i ⟨l,hl⟩ o ho;rw[aR]at hl;by_cases h:i=t
 grind
 rw[if_neg h]at hl;rw[hμ i h]at ho;rcases ho with ho|⟨ho,-⟩;exact hR.sep i ⟨l,hl⟩ o ho;have:=hR.jH (bh hl ae);omega
 intro i e1 s1 n1 hl o ho;rw[aR]at hl;by_cases h:i=t;subst h;rw[if_pos rfl]at hl;cases hl;rw[hμn]at ho;rcases ho with ho|⟨-,ho⟩;have:=hR.wM ho;omega
 grind
 rw[if_neg h]at hl;rw[hμ i h]at ho;rcases ho with ho|⟨ho,-⟩;exact hR.nB i e1 s1 n1 hl o ho;have:=hR.jH (bh hl ae);omega
 intro i e1 s1 l z hl;rw[aR]at hl;by_cases h:i=t
 grind
 rw[if_neg h]at hl;obtain⟨a,h1,h2,h3,h4,h5,h6,h7⟩:=hR.ops i e1 s1 l z hl;rw[hμ i h,hκ i h];refine⟨a,(hp.lt (cA h1)).trans h1,h2,h3,h4,λj c hc=>⟨(h5 j c hc).1,(h5 j c hc).2.mono M⟩,λhz j hj=>.inl (h6 hz j hj),λhz o ho=>?_⟩;rcases ho with ho|⟨ho,-⟩
 grind
 grind
theorem G7{t k:Nat}{ob:Obj}{e:TypeId}{s:Nat}{l l':cn}(hR:Rel x)(h0:x.S[t]? =some (.op e s l false))(hp:oz x.w w' ob)(hlt:l.length<l'.length):bE x (x.kF w' t k (λ_=>False) (.op e s l' false)):=by
 have aR:∀j,(x.kF w' t k (λ_=>False) (.op e s l' false)).S[j]? =if j=t then some (.op e s l' false)else x.S[j]? :=λj=>gK h0 _ j
 refine⟨by show _<=w'.heap.size;rw[hp.heap];simp,hp.env,λc o h=>⟨.inl h,cell_of_block (hp.lt (hR.wM h)) o⟩,λc o h=>?_,λc hc _=>hp.lt hc,by show _<=(x.S.set _ _).length;simp,λi l hl=>?_,λi c hl hc=>?_,λi e1 s1 n1 hl=>?_,λi hi=>?_,λi e1 s1 l1 z hl=>?_⟩;rcases h with h|h
 grind
 grind
 have hne:i≠t:=by rintro rfl;rw[h0]at hl;cases hl
 exact⟨if_neg hne,l,by rw[aR,if_neg hne];exact hl⟩;have hne:i≠t:=by rintro rfl;rw[h0]at hl;cases hl;cases hc
 exact⟨if_neg hne,⟨c,by rw[aR,if_neg hne];exact hl,dL hc⟩,λ_=>by obtain⟨o,h1,-⟩:=hR.dA i c hl hc;exact hp.lt (cA h1)⟩;have hne:i≠t:=by rintro rfl;rw[h0]at hl;cases hl
 exact⟨n1,by rw[aR,if_neg hne];exact hl,ai _,λ_=>⟨if_neg hne,if_neg hne⟩⟩;by_cases hne:i=t;right;subst hne;show _<=(if _ then _ else _);rw[if_pos rfl];exact ai _;left;obtain⟨c,hc,FF⟩:=hi;rw[aR,if_neg hne]at hc;exact⟨⟨c,hc,FF⟩,if_neg hne⟩;by_cases hne:i=t
 grind
 exact⟨l1,z,by rw[aR,if_neg hne];exact hl,ai _,λe=>⟨rfl,e⟩,λ_=>⟨if_neg hne,if_neg hne⟩⟩
theorem X2{t k:Nat}{e:TypeId}{s:Nat}{l l':cn}{arr:Array Value}(hR:Rel x)(h0:x.S[t]? =some (.op e s l false))(hp:oz x.w w' (.cells arr e (0,0)))(hlt:l.length<l'.length)
  (hs:arr.size=k*s) (hn:l'.length<=arr.size) (hk:k<=maxLen) (hc:∀j c,l'[j]? =some c->c.bU=true/\RV x c (arr.getD j undef)):Rel (x.kF w' t k (λ_=>False) (.op e s l' false)):=by
 have M:=G7 (k:=k) hR h0 hp hlt;have aR:∀j,(x.kF w' t k (λ_=>False) (.op e s l' false)).S[j]? =if j=t then some (.op e s l' false)else x.S[j]? :=λj=>gK h0 _ j
 have hμ:∀i,i≠t->(x.kF w' t k (λ_=>False) (.op e s l' false)).μ i=x.μ i:=λi h=>if_neg h;have hκ:∀i,i≠t->(x.kF w' t k (λ_=>False) (.op e s l' false)).κ i=x.κ i:=λi h=>if_neg h;have hμn:(x.kF w' t k (λ_=>False) (.op e s l' false)).μ t=x.w.heap.size:=if_pos rfl;have hκn:(x.kF w' t k (λ_=>False) (.op e s l' false)).κ t=k:=if_pos rfl;have M3:∀c o,(x.kF w' t k (λ_=>False) (.op e s l' false)).Fz c o->x.Fz c o:=λc o h=>h.elim id λh=>h.2.elim;have oZ:∀i,Live (x.kF w' t k (λ_=>False) (.op e s l' false)).S i->Live x.S i:=by
  rintro i ⟨c,hc,FF⟩;rw[aR]at hc;split at hc;rename_i h;subst h;exact bh h0 ae
  exact⟨c,hc,FF⟩
 constructor
 case glob=>exact hR.glob.keep M.fz
 intro i l1 hl;rw[aR]at hl;by_cases h:i=t
 grind
 rw[if_neg h]at hl;obtain⟨a,e,h1,h2,h3⟩:=hR.cells i l1 hl;rw[hμ i h];exact⟨a,e,(hp.lt (cA h1)).trans h1,h2,λj c hc=>(h3 j c hc).mono M⟩;intro i e1 s1 n1 hl;rw[aR]at hl;by_cases h:i=t
 grind
 rw[if_neg h]at hl;obtain⟨a,h1,h2⟩:=hR.cU i e1 s1 n1 hl;rw[hμ i h,hκ i h];exact⟨a,(hp.lt (cA h1)).trans h1,h2⟩;intro i c hl hc;rw[aR]at hl;by_cases h:i=t;rw[if_pos h]at hl;cases hl;cases hc
 rw[if_neg h]at hl;obtain⟨o,h1,h2⟩:=hR.dA i c hl hc;rw[hμ i h];exact⟨o,(hp.lt (cA h1)).trans h1,h2.mono M⟩;intro i j hi hj he;by_cases h1:i=t;by_cases h2:j=t
 grind
 rw[h1,hμn,hμ j h2]at he;have:=hR.jH (oZ j hj);omega;by_cases h2:j=t;rw[h2,hμn,hμ i h1]at he;have:=hR.jH (oZ i hi);omega;rw[hμ i h1,hμ j h2]at he;exact hR.inj i j (oZ i hi) (oZ j hj) he;intro c o h;have h:=M3 c o h;obtain⟨v,hv⟩:=hR.xg c o h;exact⟨v,(M.fz c o h).2.trans hv⟩;rintro i ⟨l1,hl⟩ o ho;rw[aR]at hl;by_cases h:i=t
 grind
 rw[if_neg h]at hl;rw[hμ i h]at ho;exact hR.sep i ⟨l1,hl⟩ o (M3 _ _ ho);intro i e1 s1 n1 hl o ho;rw[aR]at hl;by_cases h:i=t
 grind
 rw[if_neg h]at hl;rw[hμ i h]at ho;exact hR.nB i e1 s1 n1 hl o (M3 _ _ ho);intro i e1 s1 l1 z hl;rw[aR]at hl;by_cases h:i=t;subst h;rw[if_pos rfl]at hl;cases hl;rw[hμn,hκn];refine⟨arr,hp.new,hs,hn,hk,λj c h=>⟨(hc j c h).1,(hc j c h).2.mono M⟩,ae,λ_ o ho=>?_⟩;have:=hR.wM (M3 _ _ ho);omega;rw[if_neg h]at hl;obtain⟨a,h1,h2,h3,h4,h5,h6,h7⟩:=hR.ops i e1 s1 l1 z hl;rw[hμ i h,hκ i h];exact⟨a,(hp.lt (cA h1)).trans h1,h2,h3,h4,λj c hc=>⟨(h5 j c hc).1,(h5 j c hc).2.mono M⟩,λhz j hj=>.inl (h6 hz j hj),λhz o ho=>h7 hz o (M3 _ _ ho)⟩
def Cx.close (x:Cx)(id:Nat)(e:TypeId)(s:Nat)(l:cn):Cx:=⟨x.w,x.μ,x.κ,λc o=>x.Fz c o\/(c=x.μ id/\o<l.length),x.S.set id (.op e s l true)⟩
theorem xP{id:Nat}{e:TypeId}{s:Nat}{l:cn}(h0:x.S[id]? =some (.op e s l false)):bE x (x.close id e s l):=by
 have aR:∀j,(x.close id e s l).S[j]? =if j=id then some (.op e s l true)else x.S[j]? :=λj=>gK h0 _ j
 have hne:∀{i c},x.S[i]? =some c->(∀e s l z,c≠DB.op e s l z)->(x.close id e s l).S[i]? =some c:=λ{i c} h hc=>by
  rw[aR,if_neg];exact h
  grind
 refine⟨ai _,⟨rfl,rfl⟩,λc o h=>⟨.inl h,rfl⟩,λc o h=>?_,λc hc _=>rfl,by show _<=(x.S.set _ _).length;simp,λi l hl=>⟨rfl,l,hne hl ae⟩,λi c hl hc=>⟨rfl,⟨c,hne hl (by rintro _ _ _ _ rfl;cases hc),dL hc⟩,λ_=>rfl⟩,λi e1 s1 n1 hl=>⟨n1,hne hl ae,ai _,λ_=>⟨rfl,rfl⟩⟩,λi hi=>.inl ⟨?_,rfl⟩,λi e1 s1 l1 z hl=>?_⟩;rcases h with h|⟨rfl,-⟩
 grind
 exact .inr (.inr ⟨id,bh h0 ae,rfl⟩);obtain⟨c,hc,FF⟩:=hi;rw[aR]at hc;split at hc;rename_i e;subst e;exact bh h0 ae
 exact⟨c,hc,FF⟩;by_cases h:i=id;subst h;rw[h0]at hl;cases hl;exact⟨l,true,by rw[aR,if_pos rfl],ai _,ae,λ_=>⟨rfl,rfl⟩⟩;exact⟨l1,z,by rw[aR,if_neg h];exact hl,ai _,λe=>⟨rfl,e⟩,λ_=>⟨rfl,rfl⟩⟩
theorem GU{id:Nat}{e:TypeId}{s:Nat}{l:cn}(hR:Rel x)(h0:x.S[id]? =some (.op e s l false)):Rel (x.close id e s l):=by
 have M:=xP (x:=x) h0;have aR:∀j,(x.close id e s l).S[j]? =if j=id then some (.op e s l true)else x.S[j]? :=λj=>gK h0 _ j
 have hgo:∀{i c},(x.close id e s l).S[i]? =some c->(∀e s l z,c≠DB.op e s l z)->x.S[i]? =some c/\i≠id:=λ{i c} h hc=>by
  rw[aR]at h;split at h
  grind
  grind
 have oZ:∀i,Live (x.close id e s l).S i->Live x.S i:=λi hi=>by
  obtain⟨c,hc,FF⟩:=hi;rw[aR]at hc;split at hc;rename_i e;subst e;exact bh h0 ae
  exact⟨c,hc,FF⟩
 obtain⟨arr,a1,a2,a3,a4,a5,-,-⟩:=hR.ops id e s l false h0;constructor
 case glob=>exact hR.glob.keep M.fz
 intro i l1 hl;obtain⟨hl,-⟩:=hgo hl ae;obtain⟨a,e,h1,h2,h3⟩:=hR.cells i l1 hl;exact⟨a,e,h1,h2,λj c hc=>(h3 j c hc).mono M⟩;intro i e1 s1 n1 hl;obtain⟨hl,-⟩:=hgo hl ae;exact hR.cU i e1 s1 n1 hl;intro i c hl hc;obtain⟨hl,-⟩:=hgo hl (by rintro _ _ _ _ rfl;cases hc);obtain⟨o,h1,h2⟩:=hR.dA i c hl hc;exact⟨o,h1,h2.mono M⟩;exactλi j hi hj he=>hR.inj i j (oZ i hi) (oZ j hj) he;intro c o h;rcases h with h|⟨rfl,h⟩;exact hR.xg c o h;exact⟨arr[o]' ab,by show x.w.cell? _=_;simp only[World.cell?,a1];exact b7 _⟩;rintro i ⟨l1,hl⟩ o ho;obtain⟨hl,hi⟩:=hgo hl ae;rcases ho with ho|⟨ho,-⟩;exact hR.sep i ⟨l1,hl⟩ o ho;exact hi (hR.inj i id (bh hl ae) (bh h0 ae) ho);intro i e1 s1 n1 hl o ho;obtain⟨hl,hi⟩:=hgo hl ae;rcases ho with ho|⟨ho,-⟩;exact hR.nB i e1 s1 n1 hl o ho;exact(hi (hR.inj i id (bh hl ae) (bh h0 ae) ho)).elim;intro i e1 s1 l1 z hl;rw[aR]at hl;by_cases h:i=id;subst h;rw[if_pos rfl]at hl;cases hl;exact⟨arr,a1,a2,a3,a4,λj c hc=>⟨(a5 j c hc).1,(a5 j c hc).2.mono M⟩,λ_ j hj=>.inr ⟨rfl,hj⟩,ae⟩;rw[if_neg h]at hl;obtain⟨a,h1,h2,h3,h4,h5,h6,h7⟩:=hR.ops i e1 s1 l1 z hl;refine⟨a,h1,h2,h3,h4,λj c hc=>⟨(h5 j c hc).1,(h5 j c hc).2.mono M⟩,λhz j hj=>.inl (h6 hz j hj),λhz o ho=>?_⟩;rcases ho with ho|⟨ho,-⟩;exact h7 hz o ho;exact h (hR.inj i id (bh hl ae) (bh h0 ae) ho)
def cz(w:World)(r:Nat)(o:Obj):World:={w with heap:=w.heap.setIfInBounds r o}
theorem gH(w:World)(r:Nat)(o:Obj){b:Nat}(h:b≠r):(cz w r o).heap[b]? =w.heap[b]? :=by simp[cz,Ne.symm h]
theorem zU(w:World)(r:Nat)(o o0:Obj)(h:w.heap[r]? =some o0):(cz w r o).heap[r]? =some o:=by have:=cA h;simp[cz,this]
theorem TD{b:DB}{o:Obj}(hb:b.isObj=true)(h:uf x b o):∀arr e fr,o≠.cells arr e fr:=by rintro arr e fr rfl;cases b<;>simp_all [DB.isObj,uf]
theorem Rel.W5 (hR:Rel x){id:Nat}{b:DB}(h0:x.S[id]? =some b)(hb:b.isObj=true)(o:Nat):¬x.Fz (x.μ id) o:=by intro hf;obtain⟨ob,h1,h2⟩:=hR.dA id b h0 hb;obtain⟨v,hv⟩:=hR.xg _ _ hf;have:=TD hb h2;unfold World.cell? at hv;simp only[h1]at hv;cases ob<;>first|(exact this _ _ _ rfl)|simp at hv
def Cx.xm (x:Cx)(id:Nat)(o:Obj)(b:DB):Cx:=⟨cz x.w (x.μ id) o,x.μ,x.κ,x.Fz,x.S.set id b⟩
theorem A8{id:Nat}{o:Obj}{b0 b:DB}(hR:Rel x)(h0:x.S[id]? =some b0)(hl:b0.like b)(hd:b0≠.defer):bE x (x.xm id o b):=by
 have Dl:=(uE hl).1;have aR:∀j,(x.xm id o b).S[j]? =if j=id then some b else x.S[j]? :=λj=>gK h0 b j
 refine⟨by show _<=(cz _ _ _).heap.size;simp[cz],⟨rfl,rfl⟩,λc p h=>⟨h,cell_of_block (gH _ _ _ ?_) p⟩,λc p h=>.inl h,λc hc hn=>gH _ _ _ λe=>hn id (bh h0 (eT Dl)) e.symm,by show _<=(x.S.set _ _).length;simp,λi l jZ=>⟨rfl,l,?_⟩,λi c jZ hc=>⟨rfl,?_,λwv=>?_⟩,λt e s n ht=>⟨n,?_,ai _,λ_=>⟨rfl,rfl⟩⟩,λi hi=>.inl ⟨?_,rfl⟩,λt e s l z ht=>⟨l,z,?_,ai _,λe=>⟨rfl,e⟩,λ_=>⟨rfl,rfl⟩⟩⟩;rintro rfl;exact hR.W5 h0 Dl p h;rw[aR,if_neg (by rintro rfl;rw[h0]at jZ;cases jZ;cases Dl)];exact jZ;rw[aR];split
 grind
 exact⟨c,jZ,dL hc⟩;subst wv;refine gH _ _ _ λe=>?_;have:=hR.inj i id (bh jZ ae) (bh h0 (eT Dl)) e;subst this;rw[h0]at jZ;cases jZ;exact hd rfl;rw[aR,if_neg (by rintro rfl;rw[h0]at ht;cases ht;cases Dl)];exact ht;obtain⟨c,hc,FF⟩:=hi;rw[aR]at hc;split at hc;rename_i e;subst e;exact bh h0 (eT Dl)
 exact⟨c,hc,FF⟩;rw[aR,if_neg (by rintro rfl;rw[h0]at ht;cases ht;cases Dl)];exact ht
theorem K9{id:Nat}{o:Obj}{b0 b:DB}(hR:Rel x)(h0:x.S[id]? =some b0)(hl:b0.like b)(hd:b0≠.defer)(ho:uf (x.xm id o b) b o):Rel (x.xm id o b):=by
 have M:=A8 (o:=o) hR h0 hl hd;have Dl:=(uE hl).1;have hb:=(uE hl).2;have aR:∀j,(x.xm id o b).S[j]? =if j=id then some b else x.S[j]? :=λj=>gK h0 b j
 obtain⟨ob,hob,-⟩:=hR.dA id b0 h0 Dl;have oZ:∀i,Live (x.xm id o b).S i->Live x.S i:=λi ⟨c,hc,FF⟩=>by
  rw[aR]at hc;split at hc;rename_i e;subst e;exact bh h0 (eT Dl)
  exact⟨c,hc,FF⟩
 have FN:∀i,i≠id->Live x.S i->(cz x.w (x.μ id) o).heap[x.μ i]? =x.w.heap[x.μ i]? :=λi hi CK=>gH _ _ _ λe=>hi (hR.inj i id CK (bh h0 (eT Dl)) e);constructor
 case glob=>exact hR.glob.keep M.fz
 intro i l jZ;rw[aR]at jZ;by_cases h:i=id;rw[if_pos h]at jZ;cases jZ;cases hb
 rw[if_neg h]at jZ;obtain⟨a,e,h1,h2,h3⟩:=hR.cells i l jZ;exact⟨a,e,(FN i h (bh jZ ae)).trans h1,h2,λj c hc=>(h3 j c hc).mono M⟩;intro i e s n jZ;rw[aR]at jZ;by_cases h:i=id;rw[if_pos h]at jZ;cases jZ;cases hb
 rw[if_neg h]at jZ;obtain⟨a,h1,h2⟩:=hR.cU i e s n jZ;exact⟨a,(FN i h (bh jZ ae)).trans h1,h2⟩;intro i c jZ hc;rw[aR]at jZ;by_cases h:i=id;subst h;rw[if_pos rfl]at jZ;cases jZ;exact⟨o,zU _ _ _ _ hob,ho⟩;rw[if_neg h]at jZ;obtain⟨o',h1,h2⟩:=hR.dA i c jZ hc;exact⟨o',(FN i h (bh jZ (eT hc))).trans h1,h2.mono M⟩;exactλi j hi hj he=>hR.inj i j (oZ i hi) (oZ j hj) he;intro c p h;obtain⟨v,hv⟩:=hR.xg c p h;exact⟨v,(M.fz c p h).2.trans hv⟩;rintro i ⟨l,jZ⟩ p hp;rw[aR]at jZ;by_cases h:i=id;rw[if_pos h]at jZ;cases jZ;cases hb
 rw[if_neg h]at jZ;exact hR.sep i ⟨l,jZ⟩ p hp;intro i e s n jZ p hp;rw[aR]at jZ;by_cases h:i=id;rw[if_pos h]at jZ;cases jZ;cases hb
 rw[if_neg h]at jZ;exact hR.nB i e s n jZ p hp;intro i e s l z jZ;rw[aR]at jZ;by_cases h:i=id;rw[if_pos h]at jZ;cases jZ;cases hb
 rw[if_neg h]at jZ;obtain⟨a,h1,h2,h3,h4,h5,h6⟩:=hR.ops i e s l z jZ;exact⟨a,(FN i h (bh jZ ae)).trans h1,h2,h3,h4,λj c hc=>⟨(h5 j c hc).1,(h5 j c hc).2.mono M⟩,h6⟩
theorem kV{r:Nat}{o o0:Obj}{w:World}(h:w.heap[r]? =some o0)(hn:∀arr e fr,o0≠.cells arr e fr):(setObj r o).run P w=.ok () (cz w r o):=by simp only[setObj,Sem.run,h];cases o0<;>first|rfl|exact absurd rfl (hn _ _ _)
theorem jm{r:Nat}{o0:Obj}{w:World}(h:w.heap[r]? =some o0)(hn:∀arr e fr,o0≠.cells arr e fr):(getObj r).run P w=.ok o0 w:=by unfold getObj Sem.run;rw[h];cases o0<;>first|rfl|exact absurd rfl (hn _ _ _)
end Go.Di
namespace Go.Di
open Go
variable {P:Program} {ty:fo} {x:Cx} {w':World}
theorem pQ{t:TypeId}{i:TypeInfo}(h:Gp P t=some i):P.info? t=some i/\∃d,P.underlying t=some d:=by
 unfold Gp at h;split at h
 grind
 cases h
theorem bZ{t:TypeId}{k:TK}{sz:Nat}{z:Option cn}(h:Va P t=some ⟨k,sz,z⟩):FJ P t=some k/\∃i,P.info? t=some i/\i.size=sz/\zeroOf i=z:=by
 unfold Va at h;split at h
 grind
 cases h
theorem jx{i:TypeInfo}{cs:cn}(h:zeroOf i=some cs):∃z,i.zero=some z/\sw z.cells.toList=some cs/\cs.length=i.size:=by
 unfold zeroOf at h;split at h
 grind
 cases h
theorem lW{t:TypeId}{e s b:Nat}{agg:Bool}(h:FJ P t=some (.slice e s b agg)):P.underlying t=some (.slice e)/\∃i,P.info? e=some i/\i.size=s/\i.bytes=b/\pE P e=agg:=by
 unfold FJ at h;split at h;simp only[af]at h;obtain⟨_,_,h⟩:=h;cases h
 simp only[af]at h;obtain⟨_,_,h⟩:=h;cases h
 rename_i e' he;simp only[af]at h;obtain⟨i,h1,h⟩:=h;cases h;exact⟨he,i,(pQ h1).1,rfl,rfl,rfl⟩;cases h;cases h
theorem zc{t:TypeId}{n s:Nat}{agg:Bool}(h:FJ P t=some (.array n s agg)):∃e,P.underlying t=some (.array n e)/\∃i,P.info? e=some i/\i.size=s/\pE P e=agg/\∃d0,P.underlying e=some d0:=by
 unfold FJ at h;split at h;simp only[af]at h;obtain⟨_,_,h⟩:=h;cases h
 rename_i m e' he;simp only[af]at h;obtain⟨i,h1,h⟩:=h;cases h;exact⟨e',he,i,(pQ h1).1,rfl,rfl,(pQ h1).2⟩;simp only[af]at h;obtain⟨_,_,h⟩:=h;cases h
 cases h;cases h
def Jr(P:Program)(f:Field)(r:Nat×Nat×Bool):Prop:=f.offset=r.1/\∃i,P.info? f.type=some i/\i.size=r.2.1/\pE P f.type=r.2.2/\∃d0,P.underlying f.type=some d0
theorem B4:∀{l:List Field}{fs:List (Nat×Nat×Bool)},(l.mapM λf=>(Gp P f.type).map λi=>(f.offset,i.size,pE P f.type))=some fs->l.length=fs.length/\∀(j:Nat)(r:Nat×Nat×Bool),fs[j]? =some r->∃f,l[j]? =some f/\Jr P f r
 |[],fs,h=>by grind
 |f::l,fs,h=>by
  simp only[List.mapM_cons,Option.bind_eq_bind,kN,af,Option.pure_def,aF]at h;obtain⟨r,⟨i,h1,rfl⟩,xe,h2,rfl⟩:=h;obtain⟨h3,h4⟩:=B4 h2;refine⟨by simp[h3],λj r hr=>?_⟩;cases j with
  |zero=>simp only[dH,aF]at hr;subst hr;exact⟨f,rfl,rfl,i,(pQ h1).1,rfl,rfl,(pQ h1).2⟩
  |succ j=>simpa using h4 j r (by simpa using hr)
theorem AM{t:TypeId}{fs:List (Nat×Nat×Bool)}(h:FJ P t=some (.struct fs)):∃fields:Array Field,P.underlying t=some (.struct fields)/\fields.size=fs.length/\∀(j:Nat)(r:Nat×Nat×Bool),fs[j]? =some r->∃f,fields[j]? =some f/\Jr P f r:=by
 unfold FJ at h;split at h;rename_i fields he;simp only[af]at h;obtain⟨xe,h1,h⟩:=h;cases h;obtain⟨h2,h3⟩:=B4 h1;exact⟨fields,he,by simpa using h2,λj r hr=>by simpa using h3 j r hr⟩;simp only[af]at h;obtain⟨_,_,h⟩:=h;cases h
 simp only[af]at h;obtain⟨_,_,h⟩:=h;cases h
 cases h;cases h
theorem NA{t:TypeId}{k:TK}(h:FJ P t=some k):k.isAgg=pE P t/\∃d,P.underlying t=some d:=by
 unfold FJ at h;unfold pE;split at h;rename_i fields he;simp only[af]at h;obtain⟨_,_,rfl⟩:=h;rw[he];exact⟨rfl,_,rfl⟩
 rename_i n e he;simp only[af]at h;obtain⟨_,_,rfl⟩:=h;rw[he];exact⟨rfl,_,rfl⟩
 rename_i e he;simp only[af]at h;obtain⟨_,_,rfl⟩:=h;rw[he];exact⟨rfl,_,rfl⟩
 rename_i d h1 h2 h3 he;cases h;rw[he];refine⟨?_,_,rfl⟩;cases d with
 |struct fs=>exact(h1 fs rfl).elim
 |array n e=>exact(h2 n e rfl).elim
 |_=>rfl
 cases h
theorem vL{t:TypeId}{d:TypeDesc}(h:P.underlying t=some d)(w:World):(isAgg t).run P w=.ok (pE P t) w:=by unfold isAgg pE;simp only[Sem.run_bind,run_underlying h,Result.andThen_ok,h];cases d<;>rfl
theorem run_sizeOf{t:TypeId}{i:TypeInfo}(h:P.info? t=some i)(w:World):(sizeOf t).run P w=.ok i.size w:=by simp[sizeOf,typeInfo,h]
theorem Qi{l:cn}{v:Value}(h:RV x (.agg l) v):∃vs,v=.agg vs/\gb x l vs:=by cases h with|agg h hl=>exact⟨_,rfl,h,hl⟩
theorem uF{s:Nat}:∀{rows:cn},(∀r∈rows,r.cells.length=s)->∀{i:Nat}{r:DV},rows[i]? =some r->∀{j:Nat},j<s->(flat rows)[i*s+j]? =r.cells[j]?
 |[],_,i,r,h,_,_=>by simp at h
 |r0::rows,hs,i,r,h,j,hj=>by
  have h0:r0.cells.length=s:=hs r0 ae;simp only[flat,dm];cases i with
  |zero=>grind
  |succ i=>
   have he:(i+1)*s+j=s+(i*s+j):=by rw[ni];omega
   rw[he,fT ab,h0,qE];exact uF (rows:=rows) (λr hr=>hs r (by simp[hr])) (by simpa using h) hj
theorem gT{s:Nat}:∀{rows:cn},(∀r∈rows,r.cells.length=s)->(flat rows).length=rows.length*s
 |[],_=>by simp[flat]
 |r::rows,h=>by have:=gT (rows:=rows) λr hr=>h r (by simp[hr]);have h0:=h r ae;simp only[flat]at this;simp only[flat,dm,cL,this,h0,cT,ni];omega
theorem iA(b o n:Nat):(⟨b,o,none⟩:Addr).add n=⟨b,o+n,none⟩:=by unfold Addr.add;split<;>simp_all
theorem HF{l cs:cn}{off n:Nat}(h:Vr l off n=some cs):cs.length=n/\off+n<=l.length/\∀j,j<n->cs[j]? =l[off+j]? :=by
 unfold Vr at h;split at h
 grind
 cases h
theorem Bb{t:TypeId}{i:TypeInfo}{d0:TypeDesc}{b o off size:Nat}{agg:Bool}{l:cn}{d:DV}(hi:P.info? t=some i)(hu:P.underlying t=some d0)(hs:i.size=size)(ha:pE P t=agg)
  (hc:∀j c,l[j]? =some c->∃v,x.w.cell? ⟨b,o+j,none⟩=some v/\RV x c v) (h:pg agg size l off=some d):∃v,(loadVar t ⟨b,o+off,none⟩).run P x.w=.ok v x.w/\RV x d v:=by
 unfold pg at h;subst ha;cases HZ:pE P t with
 |true=>
  rw[HZ,if_pos rfl,af]at h;obtain⟨cs,h1,rfl⟩:=h;obtain⟨h2,h3,h4⟩:=HF h1;have hf:∀j,j<size->∃v,x.w.cell? ⟨b,o+off+j,none⟩=some v/\∀c,cs[j]? =some c->RV x c v:=by grind
  let f:Nat->Value:=λj=>if hj:j<size then(hf j hj).choose else undef
  have UU:∀j,j<size->x.w.cell? ⟨b,o+off+j,none⟩=some (f j):=λj hj=>by simp only[f,dif_pos hj];exact(hf j hj).choose_spec.1
  have ZX:∀j,j<size->∀c,cs[j]? =some c->RV x c (f j):=λj hj=>by simp only[f,dif_pos hj];exact(hf j hj).choose_spec.2
  refine⟨.agg ((List.range size).map f).toArray,?_,.agg (by simp[h2]) λj c nR=>?_⟩;unfold loadVar;simp only[Sem.run_bind,vL hu,HZ,Result.andThen_ok,if_true,run_sizeOf hi,hs];rw[run_loadCells (P:=P) x.w ⟨b,o+off,none⟩ size f λj hj=>by rw[iA];exact UU j hj];rfl;have hj:j<size:=by have:=(aI.1 nR).1;omega
  have:=ZX j hj c nR;simpa [aW,hj]using this
 |false=>rw[HZ]at h;simp only[aJ,if_false]at h;obtain⟨v,k1,k2⟩:=hc off d h;refine⟨v,?_,k2⟩;unfold loadVar;simp only[Sem.run_bind,vL hu,HZ,Result.andThen_ok,aJ,if_false,run_load,k1]
theorem Qx{t:TypeId}{i:TypeInfo}{d0:TypeDesc}{off size:Nat}{agg:Bool}{l:cn}{arr:Array Value}{d:DV}(hi:P.info? t=some i)(hu:P.underlying t=some d0)(hs:i.size=size)(ha:pE P t=agg)
  (hc:gb x l arr) (h:pg agg size l off=some d) (w:World):∃v,(part t arr off).run P w=.ok v w/\RV x d v:=by
 unfold pg at h;subst ha;cases HZ:pE P t with
 |true=>
  rw[HZ,if_pos rfl,af]at h;obtain⟨cs,h1,rfl⟩:=h;obtain⟨h2,h3,h4⟩:=HF h1;refine⟨.agg (arr.extract off (off+size)),?_,.agg (by simp[h2,hc.1];omega) λj c nR=>?_⟩;unfold part;simp only[Sem.run_bind,vL hu,HZ,Result.andThen_ok,if_true,run_sizeOf hi,hs];rfl;have hj:j<size:=by have:=(aI.1 nR).1;omega
  rw[h4 j hj]at nR;have:=hc.2 _ _ nR;have hlt:off+j<arr.size:=by rw[hc.1];omega
  simp only[aW,Array.getElem?_extract]at this⊢;rw[if_pos ab];exact this
 |false=>
  rw[HZ]at h;simp only[aJ,if_false]at h;have hlt:off<arr.size:=by rw[hc.1];exact(aI.1 h).1
  refine⟨arr[off],?_,by simpa [aW,hlt]using hc.2 _ _ h⟩;unfold part;simp only[Sem.run_bind,vL hu,HZ,Result.andThen_ok,aJ,if_false,b7 hlt,Sem.run_pure]
theorem one_cell{d:DV}{v:Value}(h:RV x d v)(h1:d.one=true):v.oneCell'=true/\d.cells=[d]/\v.cells=#[v]:=by
 cases h with
 |@val v h=>
  cases v with
  |tuple vs=>simp[DV.one]at h1
  |agg vs=>simp[Ax]at h
  |_=>exact⟨rfl,rfl,rfl⟩
 |agg h hl=>simp[DV.one]at h1
 |tup h hl=>simp[DV.one]at h1
 |sl hv hr h1 h2 h3 hsp h4=>exact⟨rfl,rfl,rfl⟩
 |ptr h=>exact⟨rfl,rfl,rfl⟩
 |eU hv hr=>exact⟨rfl,rfl,rfl⟩
 |fn h1 h2 h3 h4=>exact⟨rfl,rfl,rfl⟩
 |map h=>exact⟨rfl,rfl,rfl⟩
 |nN h=>exact⟨rfl,rfl,rfl⟩
 |jB h h1 h2=>exact⟨rfl,rfl,rfl⟩
 |fV h h1 h2=>exact⟨rfl,rfl,rfl⟩
theorem uu{d:DV}{v:Value}(h:RV x d v):gb x d.cells v.cells:=by
 have key:d.cells=[d]->v.cells=#[v]->gb x d.cells v.cells:=λh1 h2=>by
  rw[h1,h2];refine⟨rfl,λj c hc=>?_⟩;cases j with
  |zero=>simp only[dH,aF]at hc;subst hc;exact h
  |succ j=>simp at hc
 cases h with
 |agg h hl=>exact⟨h,hl⟩
 |@val v h=>
  cases v with
  |agg vs=>simp[Ax]at h
  |_=>exact key rfl rfl
 |_=>exact key rfl rfl
theorem cells_one{d:DV}{v:Value}(h:RV x d v)(h1:d.cells.all DV.one=true):∀u∈v.cells.toList,u.oneCell'=true:=by
 intro u hu;have hc:=uu h;obtain⟨j,hj,rfl⟩:=List.mem_iff_getElem.1 hu;have CM:j<d.cells.length:=by rw[<-hc.1];simpa using hj
 have h2:=hc.2 j d.cells[j] (aT CM);have h3:d.cells[j].one=true:=aU.1 h1 _ (iS CM);have h4:=(one_cell h2 h3).1;have hj2:j<v.cells.size:=by simpa using hj
 simpa [aW,hj2]using h4
theorem rH{l cs l':cn}{off:Nat}(h:vY l off cs=some l'):off+cs.length<=l.length/\l'=l.take off++cs++l.drop (off+cs.length):=by
 unfold vY at h;split at h
 grind
 cases h
theorem Jb{l cs:cn}{arr vs:Array Value}{off:Nat}(hle:l.length<=arr.size)(ha:∀j c,l[j]? =some c->RV x c (arr.getD j undef))(hv:gb x cs vs)(h1:off<=l.length)(h2:off+cs.length<=arr.size):
  ∀j c,(l.take off++cs++l.drop (off+cs.length))[j]? =some c->RV x c ((arr.toList.take off++vs.toList++arr.toList.drop (off+vs.size)).toArray.getD j undef):=by
 intro j c hc;have e2:=hv.1;simp only[aW,List.getElem?_toArray];by_cases c1:j<off;rw[qA,eD (by simp;omega),qB,if_pos c1]at hc⊢;have:=ha j c hc;simpa [aW]using this;by_cases c2:j<off+cs.length;rw[eD (by simp;omega),fT (by simp;omega)]at hc⊢;have e3:(l.take off).length=off:=by simp;omega
 have e4:(arr.toList.take off).length=off:=by simp;omega
 rw[e3]at hc;rw[e4];have:=hv.2 _ _ hc;simpa [aW]using this;have e3:(l.take off++cs).length=off+cs.length:=by simp;omega
 have e4:(arr.toList.take off++vs.toList).length=off+cs.length:=by simp;omega
 rw[fT ab,e3,y6]at hc;rw[fT ab,e4,y6];have e5:off+vs.size+(j-(off+cs.length))=off+cs.length+(j-(off+cs.length)):=ab
 rw[e5];have:=ha _ c hc;simpa [aW]using this
theorem Qh{l cs l':cn}{arr vs:Array Value}{off:Nat}(hl:gb x l arr)(hv:gb x cs vs)(h:vY l off cs=some l'):gb x l' (arr.toList.take off++vs.toList++arr.toList.drop (off+vs.size)).toArray:=by obtain⟨h1,rfl⟩:=rH h;have e1:=hl.1;have e2:=hv.1;exact⟨by simp;omega,Jb ab hl.2 hv ab ab⟩
theorem lZ{S:aj}{id n e s:Nat}{l:cn}{z:Bool}(h:CI S id n=some (e,s,l,z)):S[id]? =some (.op e s l z)/\n*s=l.length:=by
 unfold CI at h;split at h
 grind
 cases h
theorem S7{c:DV}(h:c.bU=true):c.one=true:=by cases c<;>simp_all [DV.bU,DV.one]
end Go.Di
namespace Go.Di
open Go
variable {P:Program} {ty:fo} {x:Cx} {w':World} {aD:bT} {call:bg}
def Yields(x:Cx)(r:Result Next)(d:DV)(S':aj):Prop:=∃v y,(r=.ok (.value v) y.w\/(r=.ok .skip y.w/\v=undef))/\y.S=S'/\Rel y/\bE x y/\RV y d v
theorem gy{s:Sem Value}{d:DV}{S':aj}{v:Value}{y:Cx}(h:s.run P x.w=.ok v y.w)(h1:y.S=S')(h2:Rel y)(h3:bE x y)(h4:RV y d v):Yields x ((do pure (.value (<-s)):Sem Next).run P x.w) d S':=
 ⟨v,y,.inl (by simp[h]),h1,h2,h3,h4⟩
theorem aQ{s:Sem Value}{d:DV}{v:Value}(hR:Rel x)(h:s.run P x.w=.ok v x.w)(h4:RV x d v):Yields x ((do pure (.value (<-s)):Sem Next).run P x.w) d x.S:=gy h rfl hR (bE.refl x) h4
theorem KL{s:Sem Unit}{S':aj}{y:Cx}(h:s.run P x.w=.ok () y.w)(h1:y.S=S')(h2:Rel y)(h3:bE x y):Yields x ((do s;pure .skip:Sem Next).run P x.w) bD S':=
 ⟨undef,y,.inr ⟨by simp[h],rfl⟩,h1,h2,h3,.val rfl⟩
theorem jO{s:Sem Value}{d:DV}(h:fG P s=some d)(w:World):∃v,s.run P w=.ok v w/\RV x d v:=by unfold fG at h;simp only[kN]at h;obtain⟨v,h1,h2⟩:=h;exact⟨v,oO h1 w,zf h2⟩
def j6(P:Program)(ty:fo):Prop:=∀t d,ty t=some d->Va P t=some d
variable {ρd:Operand->Option DV} {ρ:Operand->Value} {o:Oper} {aB:Nat}
def xw(x:Cx)(ρd:Operand->Option DV)(ρ:Operand->Value):Prop:=∀a d,ρd a=some d->RV x d (ρ a)
theorem dF(hρ:xw x ρd ρ){a:Operand}{v:Value}(h:valOf ρd a=some v):ρ a=v:=by unfold valOf at h;simp only[kN]at h;obtain⟨d,h1,h2⟩:=h;exact K6 (hρ a d h1) h2
theorem nJ(hρ:xw x ρd ρ){a:Operand}{n:Int}(h:intOf ρd a=some n):∃k,ρ a=.int k n:=by unfold intOf at h;split at h;rename_i k m h1;cases h;exact⟨k,nX (hρ a _ h1)⟩;cases h
theorem xz(hρ:xw x ρd ρ):∀{l:List Operand}{r:cn},evs ρd l=some r->gb x r (l.map ρ).toArray
 |[],r,h=>by simp only[evs,aF]at h;subst h;exact⟨rfl,ae⟩
 |a::l,r,h=>by
  unfold evs at h;split at h;rename_i d r' h1 h2;cases h;obtain⟨h3,h4⟩:=xz hρ h2;refine⟨by simpa using h3,λj c hc=>?_⟩;cases j with
  |zero=>simp only[dH,aF]at hc;subst hc;exact hρ a _ h1
  |succ j=>simpa [aW]using h4 j c (by simpa using hc)
  cases h
theorem Ys(eV:j6 P ty)(hR:Rel x)(hn:FD x.S aB){e:TypeId}{k:TK}{sz:Nat}{z:cn}(h:ty e=some ⟨k,sz,some z⟩):
  Yields x ((do pure (.value (<-Instr.alloc e true (.tuple #[]))):Sem Next).run P x.w) (.ptr aB 0) (eF x.S aB (.cells z)):=by
 obtain⟨-,i,hi,-,hz⟩:=bZ (eV e _ h);obtain⟨zv,h1,h2,-⟩:=jx hz;obtain⟨h3,h4⟩:=ic (x:=x) h2;have hp:oz x.w (x.w.alloc (.cells zv.cells e)) (.cells zv.cells e (0,0)):=gG _ _;have j3:=mG (k:=0) (F:=λ_=>False) (b:=.cells z) hR hn hp ae (.inl ⟨z,zv.cells,e,rfl,rfl,by simpa using h3,ae,λj c hc=>by simpa [aW,aK]using h4 j c hc⟩);refine gy (y:=x.fresh _ aB 0 (λ_=>False) (.cells z)) (v:=.pointer (some ⟨x.w.heap.size,0,none⟩)) ?_ rfl j3 (jv hR hn hp) ?_;simp[Instr.alloc,zeroValue,typeInfo,hi,h1,newVar,newRow,Cx.fresh];have:(x.fresh (x.w.alloc (.cells zv.cells e)) aB 0 (λ_=>False) (.cells z)).μ aB=x.w.heap.size:=if_pos rfl;rw[<-this];exact .ptr (l:=z) (by show(eF _ _ _)[_]? =_;rw[bC hn.le,if_pos rfl])
theorem afb(hR:Rel x)(hn:FD x.S aB){e:TypeId}{d:DV}{v:Value}(h:RV x d v):
  Yields x ((do pure (.value (<-Instr.box e v)):Sem Next).run P x.w) (.ptr aB 0) (eF x.S aB (.cells d.cells)):=by
 obtain⟨h3,h4⟩:=uu h;have hp:oz x.w (x.w.alloc (.cells v.cells e)) (.cells v.cells e (0,0)):=gG _ _;have j3:=mG (k:=0) (F:=λ_=>False) (b:=.cells d.cells) hR hn hp ae (.inl ⟨d.cells,v.cells,e,rfl,rfl,h3,ae,h4⟩);refine gy (y:=x.fresh _ aB 0 (λ_=>False) (.cells d.cells)) (v:=.pointer (some ⟨x.w.heap.size,0,none⟩)) ?_ rfl j3 (jv hR hn hp) ?_;simp[Instr.box,newVar,newRow,Cx.fresh];have:(x.fresh (x.w.alloc (.cells v.cells e)) aB 0 (λ_=>False) (.cells d.cells)).μ aB=x.w.heap.size:=if_pos rfl;rw[<-this];exact .ptr (l:=d.cells) (by show(eF _ _ _)[_]? =_;rw[bC hn.le,if_pos rfl])
theorem Sg{rows:cn}{b o s:Nat}{vs:Nat->Value}(hv:View x rows (some ⟨b,o,none⟩) s vs)(hr:∀j c,(flat rows)[j]? =some c->RV x c (vs j)){i:Nat}{r:DV}(h:rows[i]? =some r):
  ∀j c,r.cells[j]? =some c->∃v,x.w.cell? ⟨b,o+i*s+j,none⟩=some v/\RV x c v:=by
 intro j c hc;have hj:j<s:=by rw[<-hv.1 r (bY h)];exact(aI.1 hc).1
 have hf:=uF hv.1 h hj;rw[hc]at hf;obtain⟨-,b',o',h1,-,h2⟩:=hv.2 _ _ hf;cases h1;exact⟨_,by rw[fS];exact h2,hr _ _ hf⟩
theorem LG(eV:j6 P ty)(hR:Rel x){t:TypeId}{a d:DV}{va:Value}(ha:RV x a va)(h:kX ty x.S t a=some d):∃v,(Instr.loadAt t va).run P x.w=.ok v x.w/\RV x d v:=by
 unfold kX at h;split at h;rename_i td id off hk;obtain⟨k,sz,z⟩:=td;obtain⟨tH,i,hi,hs,-⟩:=bZ (eV t _ hk);obtain⟨HZ,d0,hu⟩:=NA tH;split at h;rename_i l hl;obtain⟨arr,e,h1,h2,h3⟩:=hR.cells id l hl;cases ha with
 |ptr _=>
  have:=Bb (x:=x) (b:=x.μ id) (o:=0) (l:=l) hi hu hs HZ.symm (λj c hc=>?_) h;obtain⟨v,h4,h5⟩:=this;refine⟨v,?_,h5⟩;simpa [Instr.loadAt,Instr.sureAddr]using h4;have hj:j<arr.size:=by rw[h2];exact(aI.1 hc).1
  refine⟨arr[j],?_,by simpa [aW,hj]using h3 j c hc⟩;simp[World.cell?,h1,hj]
 cases h;rename_i td rows i off hk;obtain⟨k,sz,z⟩:=td;obtain⟨tH,inf,hi,hs,-⟩:=bZ (eV t _ hk);obtain⟨HZ,d0,hu⟩:=NA tH;split at h;rename_i r hr;cases ha with
 |@eU _ _ _ b o s vs hv Uo=>obtain⟨v,h4,h5⟩:=Bb (x:=x) (b:=b) (o:=o+i*s) (l:=r.cells) hi hu hs HZ.symm (Sg hv Uo hr) h;refine⟨v,?_,h5⟩;rw[fS]at h4;simpa [Instr.loadAt,Instr.sureAddr]using h4
 cases h;rename_i td id n off hk;obtain⟨k,sz,z⟩:=td;obtain⟨tH,i,hi,hs,-⟩:=bZ (eV t _ hk);obtain⟨HZ,d0,hu⟩:=NA tH;split at h;rename_i e s l zz hop;obtain⟨hS,HY⟩:=lZ hop;obtain⟨arr,h1,-,h2,-,h3,-⟩:=hR.ops id e s l zz hS;cases ha with
 |fV CO JR hA=>rw[hS]at CO;cases CO;rw[hA HY];obtain⟨v,h4,h5⟩:=Bb (x:=x) (b:=x.μ id) (o:=0) (l:=l) hi hu hs HZ.symm (λj c hc=>by have hj:j<arr.size:=cK (aI.1 hc).1 h2;refine⟨arr[j],?_,by simpa [aW,hj]using(h3 j c hc).2⟩;simp[World.cell?,h1,hj]) h;exact⟨v,by simpa [Instr.loadAt,Instr.sureAddr]using h4,h5⟩
 cases h;cases h
theorem Sw(eV:j6 P ty)(hR:Rel x){t:TypeId}{a d:DV}{va vd:Value}{S':aj}(ha:RV x a va)(hd:RV x d vd)(h:pG ty x.S t a d=some S'):
  ∃y,(Instr.storeAt t va vd).run P x.w=.ok () y.w/\y.S=S'/\Rel y/\bE x y:=by
 unfold pG at h;split at h;rename_i td id off hk;obtain⟨k,sz,z⟩:=td;obtain⟨tH,i,hi,hs,-⟩:=bZ (eV t _ hk);split at h;rename_i l hl;split at h;rename_i hc;simp only[aC,bR]at hc;simp only[af]at h;obtain⟨l',h6,rfl⟩:=h;obtain⟨arr,e,h1,h2,h3⟩:=hR.cells id l hl;have kz:=uu hd;cases ha with
 |ptr _=>
  have hp:=Qh ⟨h2,h3⟩ kz h6;obtain⟨h7,h8⟩:=rH h6;refine⟨x.upd id (arr.toList.take off++vd.cells.toList++arr.toList.drop (off+vd.cells.size)).toArray (λ_=>False) (.cells l'),?_,rfl,C1 hR hl (.inl ⟨l,l',rfl,rfl,ae,hp.1,hp.2⟩),uA hR hl (.inl ⟨l,l',rfl,rfl⟩)⟩;have hst:=run_storeCells_at P (x.μ id) off e vd.cells.toList 0 arr x.w h1 (by simp only[Nat.add_zero,eZ];rw[kz.1,h2];exact h7) (cells_one hd hc.2);simp only[Nat.add_zero,eZ]at hst;have hsz:¬(vd.cells.size≠i.size):=by rw[kz.1,hc.1,hs];simp
  simp only[Instr.storeAt,Instr.sureAddr,Sem.run_bind,Sem.run_pure,Result.andThen_ok,storeVar,run_sizeOf hi,if_neg hsz];exact hst
 cases h;cases h;rename_i td id n off hk;obtain⟨k,sz,z⟩:=td;obtain⟨tH,i,hi,hs,-⟩:=bZ (eV t _ hk);split at h;rename_i e s l hop;obtain⟨hS,HY⟩:=lZ hop;split at h;rename_i hc;simp only[aC,bR]at hc;simp only[af]at h;obtain⟨l',h6,rfl⟩:=h;obtain⟨arr,h1,h0,h2,hκ,h3,-,-⟩:=hR.ops id e s l false hS;have wv:=hd.strip;have kz:=uu wv;cases ha with
 |fV CO JR hA=>
  rw[hS]at CO;cases CO;rw[hA HY];obtain⟨h7,h8⟩:=rH h6;have hp:=Jb (off:=off) h2 (λj c hc=>(h3 j c hc).2) kz ab ab;rw[<-h8]at hp;have Up:∀c∈l',c.bU=true:=λc hm=>by
   rw[h8]at hm;rcases iQ.1 hm with hm|hm;rcases iQ.1 hm with hm|hm;obtain⟨j,hj⟩:=sG.1 (vC hm);exact(h3 j c hj).1
   grind
   obtain⟨j,hj⟩:=sG.1 (List.mem_of_mem_drop hm);exact(h3 j c hj).1
  have hll:l'.length=l.length:=by rw[h8];simp;omega
  have adR:(arr.toList.take off++vd.cells.toList++arr.toList.drop (off+vd.cells.size)).toArray.size=arr.size:=by have:=kz.1;simp;omega
  refine⟨x.upd id (arr.toList.take off++vd.cells.toList++arr.toList.drop (off+vd.cells.size)).toArray (λ_=>False) (.op e s l' false),?_,rfl,C1 hR hS (.inr (.inr ⟨e,s,l,l',rfl,rfl,ab,ae,by rw[adR];exact h0,by rw[adR];omega,λj c hj=>⟨Up c (bY hj),hp j c hj⟩⟩)),uA hR hS (.inr (.inr ⟨e,s,l,l',rfl,rfl,ab⟩))⟩;have hst:=run_storeCells_at P (x.μ id) off e vd.cells.toList 0 arr x.w h1 (by simp only[Nat.add_zero,eZ];rw[kz.1];omega) (cells_one wv (aU.2 λc hm=>S7 (aU.1 hc.2 c hm)));simp only[Nat.add_zero,eZ]at hst;have hsz:¬(vd.cells.size≠i.size):=by rw[kz.1,hc.1,hs];simp
  simp only[Instr.storeAt,Instr.sureAddr,Sem.run_bind,Sem.run_pure,Result.andThen_ok,storeVar,run_sizeOf hi,if_neg hsz];exact hst
 cases h;cases h;cases h
end Go.Di
