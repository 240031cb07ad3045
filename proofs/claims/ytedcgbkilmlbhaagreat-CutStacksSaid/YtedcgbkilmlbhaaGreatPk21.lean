import Derived.Test.YtedcgbkilmlbhaaGreatPk20
namespace Go.Di
open Go
variable {P:Program} {ty:gb} {x:Cx} {w':World}
def Cx.froze (x:Cx)(w':World)(F:Nat->Prop):Cx:=⟨w',x.μ,x.κ,λc o=>x.Fz c o\/(c=x.w.heap.size/\F o),x.S⟩
theorem tV{F:Nat->Prop}{ob:Obj}(hR:Rel x)(hp:pS x.w w' ob):cg x (x.froze w' F) where
 size:=by show _<=w'.heap.size;rw[hp.heap];simp
 env:=hp.env
 fz:=λc o h=>⟨.inl h,cell_of_block (hp.lt (hR.xy h)) o⟩
 Ke:=λc o h=>by
  rcases h with h|h
  grind
  grind
 old:=λc hc _=>hp.lt hc
 len:=ak _
 cells:=λid l hl=>⟨rfl,l,hl⟩
 eH:=λid c hl hc=>⟨rfl,⟨c,hl,fD hc⟩,λ_=>by obtain⟨o,h1,-⟩:=hR.eH id c hl hc;exact hp.lt (cL h1)⟩
 ej:=λt e s n ht=>⟨n,ht,ak _,λ_=>⟨rfl,rfl⟩⟩
 live:=λi hi=>.inl ⟨hi,rfl⟩
 ops:=λ_ _ _ l z h=>⟨l,z,h,ak _,λe=>⟨rfl,e⟩,λ_=>⟨rfl,rfl⟩⟩
theorem SV{F:Nat->Prop}{ob:Obj}(hR:Rel x)(hp:pS x.w w' ob)(hF:∀o,F o->∃v,w'.cell? ⟨x.w.heap.size,o,none⟩=some v):Rel (x.froze w' F) where
 cells:=λid l hl=>by obtain⟨arr,e,h1,h2,h3⟩:=hR.cells id l hl;exact⟨arr,e,(hp.lt (cL h1)).trans h1,h2,λj c hc=>(h3 j c hc).mono (tV hR hp)⟩
 ej:=λid e s n hl=>by obtain⟨arr,h1,h2⟩:=hR.ej id e s n hl;exact⟨arr,(hp.lt (cL h1)).trans h1,h2⟩
 eH:=λid c hl hc=>by obtain⟨o,h1,h2⟩:=hR.eH id c hl hc;exact⟨o,(hp.lt (cL h1)).trans h1,h2.mono (tV hR hp)⟩
 inj:=hR.inj
 AE:=λc o h=>by rcases h with h|⟨rfl,h⟩;obtain⟨v,hv⟩:=hR.AE c o h;exact⟨v,(cell_of_block (hp.lt (hR.xy h)) o).trans hv⟩;exact hF o h
 sep:=λid ⟨l,hl⟩ o ho=>by rcases ho with ho|⟨ho,-⟩;exact hR.sep id ⟨l,hl⟩ o ho;have:x.μ id<x.w.heap.size:=hR.j4 (bD hl ae);have ho:x.μ id=x.w.heap.size:=ho;omega
 oV:=λid e s n hl o ho=>by rcases ho with ho|⟨ho,-⟩;exact hR.oV id e s n hl o ho;have:x.μ id<x.w.heap.size:=hR.j4 (bD hl ae);have ho:x.μ id=x.w.heap.size:=ho;omega
 ops:=λid e s l z hl=>by obtain⟨arr,h1,h2,h3,h4,h5,h6,h7⟩:=hR.ops id e s l z hl;refine⟨arr,(hp.lt (cL h1)).trans h1,h2,h3,h4,λj c hc=>⟨(h5 j c hc).1,(h5 j c hc).2.mono (tV hR hp)⟩,λhz j hj=>.inl (h6 hz j hj),λhz o ho=>?_⟩;rcases ho with ho|⟨ho,-⟩;exact h7 hz o ho;have:x.μ id<x.w.heap.size:=hR.j4 (bD hl ae);have ho:x.μ id=x.w.heap.size:=ho;omega
def Cx.upd (x:Cx)(id:Nat)(arr:Array Value)(F:Nat->Prop)(b:DB):Cx:=⟨x.w.setRow (x.μ id) arr,x.μ,x.κ,λc o=>x.Fz c o\/(c=x.μ id/\F o),x.S.set id b⟩
theorem iu{S:ai}{id:Nat}{b0:DB}(h:S[id]? =some b0)(b:DB)(j:Nat):(S.set id b)[j]? =if j=id then some b else S[j]? :=by grind
theorem vA{id:Nat}{arr:Array Value}{F:Nat->Prop}{b0 b:DB}(hR:Rel x)(h0:x.S[id]? =some b0)
  (hb:(∃l l',b0=.cells l/\b=.cells l')\/(∃e s n n',b0=.tail e s n/\b=.tail e s n'/\n<=n'/\∀o,o<n->(x.w.setRow (x.μ id) arr).cell? ⟨x.μ id,o,none⟩=x.w.cell? ⟨x.μ id,o,none⟩)\/(∃e s l l',b0=.op e s l false/\b=.op e s l' false/\l.length<=l'.length)):cg x (x.upd id arr F b):=by
 have FX:b0≠.none:=by rcases hb with ⟨l,l',rfl,-⟩|⟨e,s,n,n',rfl,-⟩|⟨e,s,l,l',rfl,-⟩<;>simp
 have hne:b≠.none:=by rcases hb with ⟨l,l',-,rfl⟩|⟨e,s,n,n',-,rfl,-⟩|⟨e,s,l,l',-,rfl,-⟩<;>simp
 have bz:∀j,(x.upd id arr F b).S[j]? =if j=id then some b else x.S[j]? :=λj=>iu h0 b j
 refine⟨by show _<=(x.w.setRow _ _).heap.size;rw[setRow_size];exact ak _,⟨rfl,rfl⟩,λc o h=>⟨.inl h,?_⟩,λc o h=>?_,λc hc hn=>?_,by show _<=(x.S.set _ _).length;simp,λi l hl=>⟨rfl,?_⟩,λi c hl hc=>⟨rfl,?_,?_⟩,λt e s n ht=>?_,λi hi=>.inl ⟨?_,rfl⟩,λt e s l z ht=>?_⟩;show(x.w.setRow _ _).cell? _=_;by_cases hc:c=x.μ id;subst hc;rcases hb with ⟨l,l',rfl,-⟩|⟨e,s,n,n',rfl,-,-,hk⟩|⟨e,s,l,l',rfl,-⟩;exact absurd h (hR.sep id ⟨l,h0⟩ o);exact hk o (hR.oV id e s n h0 o h);obtain⟨-,-,-,-,-,-,-,k⟩:=hR.ops id e s l false h0;exact absurd h (k rfl o);exact cell_setRow_other _ _ _ _ hc;rcases h with h|⟨rfl,-⟩
 grind
 exact .inr (.inr ⟨id,bD h0 FX,rfl⟩);exact setRow_other _ _ _ _ λe=>hn id (bD h0 FX) e.symm
 grind
 rw[bz];split;rename_i e;subst e;rw[h0]at hl;cases hl;rcases hb with ⟨l,l',h1,-⟩|⟨e,s,n,n',h1,-⟩|⟨e,s,l,l',h1,-⟩<;>(subst h1;cases hc);exact⟨c,hl,fD hc⟩;rintro rfl;refine setRow_other _ _ _ _ λe=>?_;have:=hR.inj i id (bD hl ae) (bD h0 FX) e;subst this;rw[h0]at hl;cases hl;rcases hb with ⟨l,l',h1,-⟩|⟨e,s,n,n',h1,-⟩|⟨e,s,l,l',h1,-⟩<;>cases h1;by_cases e1:t=id;subst e1;rw[h0]at ht;cases ht;rcases hb with ⟨l,l',h1,-⟩|⟨e,s,n,n',h1,rfl,h3,-⟩|⟨e,s,l,l',h1,-⟩;cases h1;cases h1;exact⟨n',by rw[bz,if_pos rfl],h3,λ_=>⟨rfl,rfl⟩⟩;cases h1;exact⟨n,by rw[bz,if_neg e1];exact ht,ak _,λ_=>⟨rfl,rfl⟩⟩;obtain⟨c,hc,FM⟩:=hi;rw[bz]at hc;split at hc;rename_i e;subst e;exact bD h0 FX
 exact⟨c,hc,FM⟩;by_cases e1:t=id;subst e1;rw[h0]at ht;cases ht;rcases hb with ⟨l,l',h1,-⟩|⟨e,s,n,n',h1,-⟩|⟨e,s,l,l',h1,rfl,h3⟩;cases h1;cases h1;cases h1;exact⟨l',false,by rw[bz,if_pos rfl],h3,ae,λ_=>⟨rfl,rfl⟩⟩;exact⟨l,z,by rw[bz,if_neg e1];exact ht,ak _,λe=>⟨rfl,e⟩,λ_=>⟨rfl,rfl⟩⟩
theorem Dc{id:Nat}{arr:Array Value}{F:Nat->Prop}{b0 b:DB}(hR:Rel x)(h0:x.S[id]? =some b0)
  (hb:(∃l l',b0=.cells l/\b=.cells l'/\(∀o,¬F o)/\arr.size=l'.length/\∀j c,l'[j]? =some c->RV x c (arr.getD j undef))\/
   (∃e s n n',b0=.tail e s n/\b=.tail e s n'/\n<=n'/\(∀o,o<n->(x.w.setRow (x.μ id) arr).cell? ⟨x.μ id,o,none⟩=x.w.cell? ⟨x.μ id,o,none⟩)/\arr.size=x.κ id*s/\n'<=arr.size/\∀o,F o->o<n')\/
   (∃e s l l',b0=.op e s l false/\b=.op e s l' false/\l.length<=l'.length/\(∀o,¬F o)/\arr.size=x.κ id*s/\l'.length<=arr.size/\∀j c,l'[j]? =some c->c.ct=true/\RV x c (arr.getD j undef))):Rel (x.upd id arr F b):=by
 have uj:(∃l l',b0=.cells l/\b=.cells l')\/(∃e s n n',b0=.tail e s n/\b=.tail e s n'/\n<=n'/\∀o,o<n->(x.w.setRow (x.μ id) arr).cell? ⟨x.μ id,o,none⟩=x.w.cell? ⟨x.μ id,o,none⟩)\/(∃e s l l',b0=.op e s l false/\b=.op e s l' false/\l.length<=l'.length):=by grind
 have M:=vA (F:=F) hR h0 uj;have FX:b0≠.none:=by rcases hb with ⟨l,l',rfl,-⟩|⟨e,s,n,n',rfl,-⟩|⟨e,s,l,l',rfl,-⟩<;>simp
 have bz:∀j,(x.upd id arr F b).S[j]? =if j=id then some b else x.S[j]? :=λj=>iu h0 b j
 have hold:∃old e,x.w.heap[x.μ id]? =some (.cells old e (0,0))/\(∀e' s n,b0=.tail e' s n->e=e'/\x.κ id<=maxLen)/\∀e' s l z,b0=.op e' s l z->e=e'/\x.κ id<=maxLen:=by rcases hb with ⟨l,l',rfl,-⟩|⟨e,s,n,n',rfl,-⟩|⟨e,s,l,l',rfl,-⟩;obtain⟨a,e,h1,-⟩:=hR.cells id l h0;exact⟨a,e,h1,ae,ae⟩;obtain⟨a,h1,-,-,h4⟩:=hR.ej id e s n h0;exact⟨a,e,h1,λe' s' n' h=>by cases h;exact⟨rfl,h4⟩,ae⟩;obtain⟨a,h1,-,-,h4,-⟩:=hR.ops id e s l false h0;exact⟨a,e,h1,ae,λe' s' l' z h=>by cases h;exact⟨rfl,h4⟩⟩
 obtain⟨old,e0,hh,he0,he1⟩:=hold;have yP:(x.w.setRow (x.μ id) arr).heap[x.μ id]? =some (.cells arr e0 (0,0)):=setRow_heap _ _ _ _ _ _ hh;have pQ:∀i,Live (x.upd id arr F b).S i->Live x.S i:=λi hi=>by
  rcases M.live i hi with ⟨h,-⟩|h;exact h;obtain⟨c,hc,FM⟩:=hi;rw[bz]at hc;split at hc;rename_i e;subst e;exact bD h0 FX
  exact⟨c,hc,FM⟩
 have Iw:∀i,i≠id->Live x.S i->(x.w.setRow (x.μ id) arr).heap[x.μ i]? =x.w.heap[x.μ i]? :=λi hi hl=>setRow_other _ _ _ _ λe=>hi (hR.inj i id hl (bD h0 FX) e);constructor;intro i l hl;rw[bz]at hl;by_cases h:i=id;subst h;rw[if_pos rfl]at hl;cases hl;rcases hb with ⟨l0,l',h1,h2,h3,h4,h5⟩|⟨e,s,n,n',h1,h2,-⟩|⟨e,s,l,l',h1,h2,-⟩;cases h2;exact⟨arr,e0,yP,h4,λj c hc=>(h5 j c hc).mono M⟩;cases h2;cases h2;rw[if_neg h]at hl;obtain⟨a,e,h1,h2,h3⟩:=hR.cells i l hl;exact⟨a,e,(Iw i h (bD hl ae)).trans h1,h2,λj c hc=>(h3 j c hc).mono M⟩;intro i e s n hl;rw[bz]at hl;by_cases h:i=id;subst h;rw[if_pos rfl]at hl;cases hl;rcases hb with ⟨l0,l',h1,h2,-⟩|⟨e',s',m,m',h1,h2,h3,h4,h5,h6,h7⟩|⟨e,s,l,l',h1,h2,-⟩;cases h2;cases h2;obtain⟨k1,k2⟩:=he0 _ _ _ h1;subst k1;exact⟨arr,yP,h5,h6,k2⟩;cases h2;rw[if_neg h]at hl;obtain⟨a,h1,h2⟩:=hR.ej i e s n hl;exact⟨a,(Iw i h (bD hl ae)).trans h1,h2⟩;intro i c hl hc;rw[bz]at hl;by_cases h:i=id;subst h;rw[if_pos rfl]at hl;cases hl;rcases hb with ⟨l0,l',h1,h2,-⟩|⟨e',s',m,m',h1,h2,-⟩|⟨e,s,l,l',h1,h2,-⟩<;>(subst h2;cases hc);rw[if_neg h]at hl;obtain⟨o,h1,h2⟩:=hR.eH i c hl hc;exact⟨o,(Iw i h (bD hl (fJ hc))).trans h1,h2.mono M⟩;exactλi j hi hj he=>hR.inj i j (pQ i hi) (pQ j hj) he;intro c o h;rcases h with h|⟨rfl,h⟩;obtain⟨v,hv⟩:=hR.AE c o h;exact⟨v,(M.fz c o h).2.trans hv⟩;rcases hb with ⟨l0,l',-,-,h3,-⟩|⟨e',s',m,m',-,-,-,-,h5,h6,h7⟩|⟨e,s,l,l',-,-,-,h3,-⟩
 grind
 have:=h7 o h;refine⟨arr[o]' ab,?_⟩;show(x.w.setRow _ _).cell? _=_;rw[cell_setRow_same _ _ _ _ _ _ _ hh];exact cD _
 grind
 rintro i ⟨l,hl⟩ o ho;rw[bz]at hl;by_cases h:i=id;subst h;rw[if_pos rfl]at hl;cases hl;rcases hb with ⟨l0,l',h1,h2,h3,-⟩|⟨e',s',m,m',h1,h2,-⟩|⟨e,s,l,l',h1,h2,-⟩;subst h1;rcases ho with ho|⟨-,ho⟩;exact hR.sep i ⟨l0,h0⟩ o ho
 grind
 cases h2;cases h2;rw[if_neg h]at hl;rcases ho with ho|⟨ho,-⟩;exact hR.sep i ⟨l,hl⟩ o ho;exact h (hR.inj i id (bD hl ae) (bD h0 FX) ho);intro i e s n hl o ho;rw[bz]at hl;by_cases h:i=id;subst h;rw[if_pos rfl]at hl;cases hl;rcases hb with ⟨l0,l',h1,h2,-⟩|⟨e',s',m,m',h1,h2,h3,-,-,-,h7⟩|⟨e,s,l,l',h1,h2,-⟩;cases h2;cases h2;subst h1;rcases ho with ho|⟨-,ho⟩;exact dD (hR.oV i _ _ _ h0 o ho) h3
 grind
 cases h2;rw[if_neg h]at hl;rcases ho with ho|⟨ho,-⟩;exact hR.oV i e s n hl o ho;exact(h (hR.inj i id (bD hl ae) (bD h0 FX) ho)).elim;intro i e s l z hl;rw[bz]at hl;by_cases h:i=id;subst h;rw[if_pos rfl]at hl;cases hl;rcases hb with ⟨l0,l',h1,h2,-⟩|⟨e',s',m,m',h1,h2,-⟩|⟨e',s',l0,l',h1,h2,h3,h4,h5,h6,h7⟩;cases h2;cases h2;cases h2;obtain⟨k1,k2⟩:=he1 _ _ _ _ h1;subst k1;refine⟨arr,yP,h5,h6,k2,λj c hc=>⟨(h7 j c hc).1,(h7 j c hc).2.mono M⟩,ae,λ_ o ho=>?_⟩;rcases ho with ho|⟨-,ho⟩;subst h1;obtain⟨-,-,-,-,-,-,-,k⟩:=hR.ops i _ _ _ _ h0;exact k rfl o ho
 grind
 rw[if_neg h]at hl;obtain⟨a,h1,h2,h3,h4,h5,h6,h7⟩:=hR.ops i e s l z hl;refine⟨a,(Iw i h (bD hl ae)).trans h1,h2,h3,h4,λj c hc=>⟨(h5 j c hc).1,(h5 j c hc).2.mono M⟩,λhz j hj=>.inl (h6 hz j hj),λhz o ho=>?_⟩;rcases ho with ho|⟨ho,-⟩;exact h7 hz o ho;exact h (hR.inj i id (bD hl ae) (bD h0 FX) ho)
def Cx.kS (x:Cx)(w':World)(t k:Nat)(F:Nat->Prop)(b:DB):Cx:=
 ⟨w',λi=>if i=t then x.w.heap.size else x.μ i,λi=>if i=t then k else x.κ i,λc o=>x.Fz c o\/(c=x.w.heap.size/\F o),x.S.set t b⟩
theorem Fh{t k:Nat}{F:Nat->Prop}{ob:Obj}{e:TypeId}{s n n':Nat}(hR:Rel x)(h0:x.S[t]? =some (.tail e s n))(hp:pS x.w w' ob)(hlt:n<n'):cg x (x.kS w' t k F (.tail e s n')):=by
 have bz:∀j,(x.kS w' t k F (.tail e s n')).S[j]? =if j=t then some (.tail e s n')else x.S[j]? :=λj=>iu h0 _ j
 refine⟨by show _<=w'.heap.size;rw[hp.heap];simp,hp.env,λc o h=>⟨.inl h,cell_of_block (hp.lt (hR.xy h)) o⟩,λc o h=>?_,λc hc _=>hp.lt hc,by show _<=(x.S.set _ _).length;simp,λi l hl=>?_,λi c hl hc=>?_,λi e1 s1 n1 hl=>?_,λi hi=>?_,λi e1 s1 l z hl=>?_⟩;rcases h with h|h
 grind
 grind
 have hne:i≠t:=by rintro rfl;rw[h0]at hl;cases hl
 exact⟨if_neg hne,l,by rw[bz,if_neg hne];exact hl⟩;have hne:i≠t:=by rintro rfl;rw[h0]at hl;cases hl;cases hc
 exact⟨if_neg hne,⟨c,by rw[bz,if_neg hne];exact hl,fD hc⟩,λ_=>by obtain⟨o,h1,-⟩:=hR.eH i c hl hc;exact hp.lt (cL h1)⟩;by_cases hne:i=t
 grind
 exact⟨n1,by rw[bz,if_neg hne];exact hl,ak _,λ_=>⟨if_neg hne,if_neg hne⟩⟩;by_cases hne:i=t;right;subst hne;show _<=(if _ then _ else _);rw[if_pos rfl];exact ak _;left;obtain⟨c,hc,FM⟩:=hi;rw[bz,if_neg hne]at hc;exact⟨⟨c,hc,FM⟩,if_neg hne⟩;have hne:i≠t:=by rintro rfl;rw[h0]at hl;cases hl
 exact⟨l,z,by rw[bz,if_neg hne];exact hl,ak _,λe=>⟨rfl,e⟩,λ_=>⟨if_neg hne,if_neg hne⟩⟩
theorem SU{t k:Nat}{F:Nat->Prop}{e:TypeId}{s n n':Nat}{arr:Array Value}(hR:Rel x)(h0:x.S[t]? =some (.tail e s n))(hp:pS x.w w' (.cells arr e (0,0)))(hlt:n<n')
  (hs:arr.size=k*s) (hn:n'<=arr.size) (hk:k<=maxLen) (hF:∀o,F o->o<n'):Rel (x.kS w' t k F (.tail e s n')):=by
 have M:=Fh (k:=k) (F:=F) hR h0 hp hlt;have bz:∀j,(x.kS w' t k F (.tail e s n')).S[j]? =if j=t then some (.tail e s n')else x.S[j]? :=λj=>iu h0 _ j
 have hμ:∀i,i≠t->(x.kS w' t k F (.tail e s n')).μ i=x.μ i:=λi h=>if_neg h;have hκ:∀i,i≠t->(x.kS w' t k F (.tail e s n')).κ i=x.κ i:=λi h=>if_neg h;have hμn:(x.kS w' t k F (.tail e s n')).μ t=x.w.heap.size:=if_pos rfl;have hκn:(x.kS w' t k F (.tail e s n')).κ t=k:=if_pos rfl;have pQ:∀i,Live (x.kS w' t k F (.tail e s n')).S i->Live x.S i:=by
  rintro i ⟨c,hc,FM⟩;rw[bz]at hc;split at hc;rename_i h;subst h;exact bD h0 ae
  exact⟨c,hc,FM⟩
 constructor;intro i l hl;rw[bz]at hl;by_cases h:i=t
 grind
 rw[if_neg h]at hl;obtain⟨a,e,h1,h2,h3⟩:=hR.cells i l hl;rw[hμ i h];exact⟨a,e,(hp.lt (cL h1)).trans h1,h2,λj c hc=>(h3 j c hc).mono M⟩;intro i e1 s1 n1 hl;rw[bz]at hl;by_cases h:i=t;subst h;rw[if_pos rfl]at hl;cases hl;rw[hμn,hκn];exact⟨arr,hp.new,hs,hn,hk⟩;rw[if_neg h]at hl;obtain⟨a,h1,h2⟩:=hR.ej i e1 s1 n1 hl;rw[hμ i h,hκ i h];exact⟨a,(hp.lt (cL h1)).trans h1,h2⟩;intro i c hl hc;rw[bz]at hl;by_cases h:i=t;rw[if_pos h]at hl;cases hl;cases hc
 rw[if_neg h]at hl;obtain⟨o,h1,h2⟩:=hR.eH i c hl hc;rw[hμ i h];exact⟨o,(hp.lt (cL h1)).trans h1,h2.mono M⟩;intro i j hi hj he;by_cases h1:i=t;by_cases h2:j=t
 grind
 rw[h1,hμn,hμ j h2]at he;have:=hR.j4 (pQ j hj);omega;by_cases h2:j=t;rw[h2,hμn,hμ i h1]at he;have:=hR.j4 (pQ i hi);omega;rw[hμ i h1,hμ j h2]at he;exact hR.inj i j (pQ i hi) (pQ j hj) he;intro c o h;rcases h with h|⟨rfl,h⟩;obtain⟨v,hv⟩:=hR.AE c o h;exact⟨v,(M.fz c o h).2.trans hv⟩;have:=hF o h;refine⟨arr[o]' ab,?_⟩;show w'.cell? _=_;simp only[World.cell?,hp.new];exact cD _;rintro i ⟨l,hl⟩ o ho;rw[bz]at hl;by_cases h:i=t
 grind
 rw[if_neg h]at hl;rw[hμ i h]at ho;rcases ho with ho|⟨ho,-⟩;exact hR.sep i ⟨l,hl⟩ o ho;have:=hR.j4 (bD hl ae);omega
 intro i e1 s1 n1 hl o ho;rw[bz]at hl;by_cases h:i=t;subst h;rw[if_pos rfl]at hl;cases hl;rw[hμn]at ho;rcases ho with ho|⟨-,ho⟩;have:=hR.xy ho;omega
 grind
 rw[if_neg h]at hl;rw[hμ i h]at ho;rcases ho with ho|⟨ho,-⟩;exact hR.oV i e1 s1 n1 hl o ho;have:=hR.j4 (bD hl ae);omega
 intro i e1 s1 l z hl;rw[bz]at hl;by_cases h:i=t
 grind
 rw[if_neg h]at hl;obtain⟨a,h1,h2,h3,h4,h5,h6,h7⟩:=hR.ops i e1 s1 l z hl;rw[hμ i h,hκ i h];refine⟨a,(hp.lt (cL h1)).trans h1,h2,h3,h4,λj c hc=>⟨(h5 j c hc).1,(h5 j c hc).2.mono M⟩,λhz j hj=>.inl (h6 hz j hj),λhz o ho=>?_⟩;rcases ho with ho|⟨ho,-⟩
 grind
 grind
theorem Ht{t k:Nat}{ob:Obj}{e:TypeId}{s:Nat}{l l':cj}(hR:Rel x)(h0:x.S[t]? =some (.op e s l false))(hp:pS x.w w' ob)(hlt:l.length<l'.length):cg x (x.kS w' t k (λ_=>False) (.op e s l' false)):=by
 have bz:∀j,(x.kS w' t k (λ_=>False) (.op e s l' false)).S[j]? =if j=t then some (.op e s l' false)else x.S[j]? :=λj=>iu h0 _ j
 refine⟨by show _<=w'.heap.size;rw[hp.heap];simp,hp.env,λc o h=>⟨.inl h,cell_of_block (hp.lt (hR.xy h)) o⟩,λc o h=>?_,λc hc _=>hp.lt hc,by show _<=(x.S.set _ _).length;simp,λi l hl=>?_,λi c hl hc=>?_,λi e1 s1 n1 hl=>?_,λi hi=>?_,λi e1 s1 l1 z hl=>?_⟩;rcases h with h|h
 grind
 grind
 have hne:i≠t:=by rintro rfl;rw[h0]at hl;cases hl
 exact⟨if_neg hne,l,by rw[bz,if_neg hne];exact hl⟩;have hne:i≠t:=by rintro rfl;rw[h0]at hl;cases hl;cases hc
 exact⟨if_neg hne,⟨c,by rw[bz,if_neg hne];exact hl,fD hc⟩,λ_=>by obtain⟨o,h1,-⟩:=hR.eH i c hl hc;exact hp.lt (cL h1)⟩;have hne:i≠t:=by rintro rfl;rw[h0]at hl;cases hl
 exact⟨n1,by rw[bz,if_neg hne];exact hl,ak _,λ_=>⟨if_neg hne,if_neg hne⟩⟩;by_cases hne:i=t;right;subst hne;show _<=(if _ then _ else _);rw[if_pos rfl];exact ak _;left;obtain⟨c,hc,FM⟩:=hi;rw[bz,if_neg hne]at hc;exact⟨⟨c,hc,FM⟩,if_neg hne⟩;by_cases hne:i=t
 grind
 exact⟨l1,z,by rw[bz,if_neg hne];exact hl,ak _,λe=>⟨rfl,e⟩,λ_=>⟨if_neg hne,if_neg hne⟩⟩
theorem X3{t k:Nat}{e:TypeId}{s:Nat}{l l':cj}{arr:Array Value}(hR:Rel x)(h0:x.S[t]? =some (.op e s l false))(hp:pS x.w w' (.cells arr e (0,0)))(hlt:l.length<l'.length)
  (hs:arr.size=k*s) (hn:l'.length<=arr.size) (hk:k<=maxLen) (hc:∀j c,l'[j]? =some c->c.ct=true/\RV x c (arr.getD j undef)):Rel (x.kS w' t k (λ_=>False) (.op e s l' false)):=by
 have M:=Ht (k:=k) hR h0 hp hlt;have bz:∀j,(x.kS w' t k (λ_=>False) (.op e s l' false)).S[j]? =if j=t then some (.op e s l' false)else x.S[j]? :=λj=>iu h0 _ j
 have hμ:∀i,i≠t->(x.kS w' t k (λ_=>False) (.op e s l' false)).μ i=x.μ i:=λi h=>if_neg h;have hκ:∀i,i≠t->(x.kS w' t k (λ_=>False) (.op e s l' false)).κ i=x.κ i:=λi h=>if_neg h;have hμn:(x.kS w' t k (λ_=>False) (.op e s l' false)).μ t=x.w.heap.size:=if_pos rfl;have hκn:(x.kS w' t k (λ_=>False) (.op e s l' false)).κ t=k:=if_pos rfl;have Nq:∀c o,(x.kS w' t k (λ_=>False) (.op e s l' false)).Fz c o->x.Fz c o:=λc o h=>h.elim id λh=>h.2.elim;have pQ:∀i,Live (x.kS w' t k (λ_=>False) (.op e s l' false)).S i->Live x.S i:=by
  rintro i ⟨c,hc,FM⟩;rw[bz]at hc;split at hc;rename_i h;subst h;exact bD h0 ae
  exact⟨c,hc,FM⟩
 constructor;intro i l1 hl;rw[bz]at hl;by_cases h:i=t
 grind
 rw[if_neg h]at hl;obtain⟨a,e,h1,h2,h3⟩:=hR.cells i l1 hl;rw[hμ i h];exact⟨a,e,(hp.lt (cL h1)).trans h1,h2,λj c hc=>(h3 j c hc).mono M⟩;intro i e1 s1 n1 hl;rw[bz]at hl;by_cases h:i=t
 grind
 rw[if_neg h]at hl;obtain⟨a,h1,h2⟩:=hR.ej i e1 s1 n1 hl;rw[hμ i h,hκ i h];exact⟨a,(hp.lt (cL h1)).trans h1,h2⟩;intro i c hl hc;rw[bz]at hl;by_cases h:i=t;rw[if_pos h]at hl;cases hl;cases hc
 rw[if_neg h]at hl;obtain⟨o,h1,h2⟩:=hR.eH i c hl hc;rw[hμ i h];exact⟨o,(hp.lt (cL h1)).trans h1,h2.mono M⟩;intro i j hi hj he;by_cases h1:i=t;by_cases h2:j=t
 grind
 rw[h1,hμn,hμ j h2]at he;have:=hR.j4 (pQ j hj);omega;by_cases h2:j=t;rw[h2,hμn,hμ i h1]at he;have:=hR.j4 (pQ i hi);omega;rw[hμ i h1,hμ j h2]at he;exact hR.inj i j (pQ i hi) (pQ j hj) he;intro c o h;have h:=Nq c o h;obtain⟨v,hv⟩:=hR.AE c o h;exact⟨v,(M.fz c o h).2.trans hv⟩;rintro i ⟨l1,hl⟩ o ho;rw[bz]at hl;by_cases h:i=t
 grind
 rw[if_neg h]at hl;rw[hμ i h]at ho;exact hR.sep i ⟨l1,hl⟩ o (Nq _ _ ho);intro i e1 s1 n1 hl o ho;rw[bz]at hl;by_cases h:i=t
 grind
 rw[if_neg h]at hl;rw[hμ i h]at ho;exact hR.oV i e1 s1 n1 hl o (Nq _ _ ho);intro i e1 s1 l1 z hl;rw[bz]at hl;by_cases h:i=t;subst h;rw[if_pos rfl]at hl;cases hl;rw[hμn,hκn];refine⟨arr,hp.new,hs,hn,hk,λj c h=>⟨(hc j c h).1,(hc j c h).2.mono M⟩,ae,λ_ o ho=>?_⟩;have:=hR.xy (Nq _ _ ho);omega;rw[if_neg h]at hl;obtain⟨a,h1,h2,h3,h4,h5,h6,h7⟩:=hR.ops i e1 s1 l1 z hl;rw[hμ i h,hκ i h];exact⟨a,(hp.lt (cL h1)).trans h1,h2,h3,h4,λj c hc=>⟨(h5 j c hc).1,(h5 j c hc).2.mono M⟩,λhz j hj=>.inl (h6 hz j hj),λhz o ho=>h7 hz o (Nq _ _ ho)⟩
def Cx.close (x:Cx)(id:Nat)(e:TypeId)(s:Nat)(l:cj):Cx:=⟨x.w,x.μ,x.κ,λc o=>x.Fz c o\/(c=x.μ id/\o<l.length),x.S.set id (.op e s l true)⟩
theorem Fi{id:Nat}{e:TypeId}{s:Nat}{l:cj}(h0:x.S[id]? =some (.op e s l false)):cg x (x.close id e s l):=by
 have bz:∀j,(x.close id e s l).S[j]? =if j=id then some (.op e s l true)else x.S[j]? :=λj=>iu h0 _ j
 have hne:∀{i c},x.S[i]? =some c->(∀e s l z,c≠DB.op e s l z)->(x.close id e s l).S[i]? =some c:=λ{i c} h hc=>by
  rw[bz,if_neg];exact h
  grind
 refine⟨ak _,⟨rfl,rfl⟩,λc o h=>⟨.inl h,rfl⟩,λc o h=>?_,λc hc _=>rfl,by show _<=(x.S.set _ _).length;simp,λi l hl=>⟨rfl,l,hne hl ae⟩,λi c hl hc=>⟨rfl,⟨c,hne hl (by rintro _ _ _ _ rfl;cases hc),fD hc⟩,λ_=>rfl⟩,λi e1 s1 n1 hl=>⟨n1,hne hl ae,ak _,λ_=>⟨rfl,rfl⟩⟩,λi hi=>.inl ⟨?_,rfl⟩,λi e1 s1 l1 z hl=>?_⟩;rcases h with h|⟨rfl,-⟩
 grind
 exact .inr (.inr ⟨id,bD h0 ae,rfl⟩);obtain⟨c,hc,FM⟩:=hi;rw[bz]at hc;split at hc;rename_i e;subst e;exact bD h0 ae
 exact⟨c,hc,FM⟩;by_cases h:i=id;subst h;rw[h0]at hl;cases hl;exact⟨l,true,by rw[bz,if_pos rfl],ak _,ae,λ_=>⟨rfl,rfl⟩⟩;exact⟨l1,z,by rw[bz,if_neg h];exact hl,ak _,λe=>⟨rfl,e⟩,λ_=>⟨rfl,rfl⟩⟩
theorem SY{id:Nat}{e:TypeId}{s:Nat}{l:cj}(hR:Rel x)(h0:x.S[id]? =some (.op e s l false)):Rel (x.close id e s l):=by
 have M:=Fi (x:=x) h0;have bz:∀j,(x.close id e s l).S[j]? =if j=id then some (.op e s l true)else x.S[j]? :=λj=>iu h0 _ j
 have hgo:∀{i c},(x.close id e s l).S[i]? =some c->(∀e s l z,c≠DB.op e s l z)->x.S[i]? =some c/\i≠id:=λ{i c} h hc=>by
  rw[bz]at h;split at h
  grind
  grind
 have pQ:∀i,Live (x.close id e s l).S i->Live x.S i:=λi hi=>by
  obtain⟨c,hc,FM⟩:=hi;rw[bz]at hc;split at hc;rename_i e;subst e;exact bD h0 ae
  exact⟨c,hc,FM⟩
 obtain⟨arr,a1,a2,a3,a4,a5,-,-⟩:=hR.ops id e s l false h0;constructor;intro i l1 hl;obtain⟨hl,-⟩:=hgo hl ae;obtain⟨a,e,h1,h2,h3⟩:=hR.cells i l1 hl;exact⟨a,e,h1,h2,λj c hc=>(h3 j c hc).mono M⟩;intro i e1 s1 n1 hl;obtain⟨hl,-⟩:=hgo hl ae;exact hR.ej i e1 s1 n1 hl;intro i c hl hc;obtain⟨hl,-⟩:=hgo hl (by rintro _ _ _ _ rfl;cases hc);obtain⟨o,h1,h2⟩:=hR.eH i c hl hc;exact⟨o,h1,h2.mono M⟩;exactλi j hi hj he=>hR.inj i j (pQ i hi) (pQ j hj) he;intro c o h;rcases h with h|⟨rfl,h⟩;exact hR.AE c o h;exact⟨arr[o]' ab,by show x.w.cell? _=_;simp only[World.cell?,a1];exact cD _⟩;rintro i ⟨l1,hl⟩ o ho;obtain⟨hl,hi⟩:=hgo hl ae;rcases ho with ho|⟨ho,-⟩;exact hR.sep i ⟨l1,hl⟩ o ho;exact hi (hR.inj i id (bD hl ae) (bD h0 ae) ho);intro i e1 s1 n1 hl o ho;obtain⟨hl,hi⟩:=hgo hl ae;rcases ho with ho|⟨ho,-⟩;exact hR.oV i e1 s1 n1 hl o ho;exact(hi (hR.inj i id (bD hl ae) (bD h0 ae) ho)).elim;intro i e1 s1 l1 z hl;rw[bz]at hl;by_cases h:i=id;subst h;rw[if_pos rfl]at hl;cases hl;exact⟨arr,a1,a2,a3,a4,λj c hc=>⟨(a5 j c hc).1,(a5 j c hc).2.mono M⟩,λ_ j hj=>.inr ⟨rfl,hj⟩,ae⟩;rw[if_neg h]at hl;obtain⟨a,h1,h2,h3,h4,h5,h6,h7⟩:=hR.ops i e1 s1 l1 z hl;refine⟨a,h1,h2,h3,h4,λj c hc=>⟨(h5 j c hc).1,(h5 j c hc).2.mono M⟩,λhz j hj=>.inl (h6 hz j hj),λhz o ho=>?_⟩;rcases ho with ho|⟨ho,-⟩;exact h7 hz o ho;exact h (hR.inj i id (bD hl ae) (bD h0 ae) ho)
def cK(w:World)(r:Nat)(o:Obj):World:={w with heap:=w.heap.setIfInBounds r o}
theorem ia(w:World)(r:Nat)(o:Obj){b:Nat}(h:b≠r):(cK w r o).heap[b]? =w.heap[b]? :=by simp[cK,Ne.symm h]
theorem Aq(w:World)(r:Nat)(o o0:Obj)(h:w.heap[r]? =some o0):(cK w r o).heap[r]? =some o:=by have:=cL h;simp[cK,this]
theorem TE{b:DB}{o:Obj}(hb:b.isObj=true)(h:u9 x b o):∀arr e fr,o≠.cells arr e fr:=by rintro arr e fr rfl;cases b<;>simp_all [DB.isObj,u9]
theorem Rel.W6 (hR:Rel x){id:Nat}{b:DB}(h0:x.S[id]? =some b)(hb:b.isObj=true)(o:Nat):¬x.Fz (x.μ id) o:=by intro hf;obtain⟨ob,h1,h2⟩:=hR.eH id b h0 hb;obtain⟨v,hv⟩:=hR.AE _ _ hf;have:=TE hb h2;unfold World.cell? at hv;simp only[h1]at hv;cases ob<;>first|(exact this _ _ _ rfl)|simp at hv
def Cx.xQ (x:Cx)(id:Nat)(o:Obj)(b:DB):Cx:=⟨cK x.w (x.μ id) o,x.μ,x.κ,x.Fz,x.S.set id b⟩
theorem Bv{id:Nat}{o:Obj}{b0 b:DB}(hR:Rel x)(h0:x.S[id]? =some b0)(hl:b0.like b)(hd:b0≠.defer):cg x (x.xQ id o b):=by
 have Kv:=(vD hl).1;have bz:∀j,(x.xQ id o b).S[j]? =if j=id then some b else x.S[j]? :=λj=>iu h0 b j
 refine⟨by show _<=(cK _ _ _).heap.size;simp[cK],⟨rfl,rfl⟩,λc p h=>⟨h,cell_of_block (ia _ _ _ ?_) p⟩,λc p h=>.inl h,λc hc hn=>ia _ _ _ λe=>hn id (bD h0 (fJ Kv)) e.symm,by show _<=(x.S.set _ _).length;simp,λi l kP=>⟨rfl,l,?_⟩,λi c kP hc=>⟨rfl,?_,λyH=>?_⟩,λt e s n ht=>⟨n,?_,ak _,λ_=>⟨rfl,rfl⟩⟩,λi hi=>.inl ⟨?_,rfl⟩,λt e s l z ht=>⟨l,z,?_,ak _,λe=>⟨rfl,e⟩,λ_=>⟨rfl,rfl⟩⟩⟩;rintro rfl;exact hR.W6 h0 Kv p h;rw[bz,if_neg (by rintro rfl;rw[h0]at kP;cases kP;cases Kv)];exact kP;rw[bz];split
 grind
 exact⟨c,kP,fD hc⟩;subst yH;refine ia _ _ _ λe=>?_;have:=hR.inj i id (bD kP ae) (bD h0 (fJ Kv)) e;subst this;rw[h0]at kP;cases kP;exact hd rfl;rw[bz,if_neg (by rintro rfl;rw[h0]at ht;cases ht;cases Kv)];exact ht;obtain⟨c,hc,FM⟩:=hi;rw[bz]at hc;split at hc;rename_i e;subst e;exact bD h0 (fJ Kv)
 exact⟨c,hc,FM⟩;rw[bz,if_neg (by rintro rfl;rw[h0]at ht;cases ht;cases Kv)];exact ht
theorem LC{id:Nat}{o:Obj}{b0 b:DB}(hR:Rel x)(h0:x.S[id]? =some b0)(hl:b0.like b)(hd:b0≠.defer)(ho:u9 (x.xQ id o b) b o):Rel (x.xQ id o b):=by
 have M:=Bv (o:=o) hR h0 hl hd;have Kv:=(vD hl).1;have hb:=(vD hl).2;have bz:∀j,(x.xQ id o b).S[j]? =if j=id then some b else x.S[j]? :=λj=>iu h0 b j
 obtain⟨ob,hob,-⟩:=hR.eH id b0 h0 Kv;have pQ:∀i,Live (x.xQ id o b).S i->Live x.S i:=λi ⟨c,hc,FM⟩=>by
  rw[bz]at hc;split at hc;rename_i e;subst e;exact bD h0 (fJ Kv)
  exact⟨c,hc,FM⟩
 have Iw:∀i,i≠id->Live x.S i->(cK x.w (x.μ id) o).heap[x.μ i]? =x.w.heap[x.μ i]? :=λi hi C5=>ia _ _ _ λe=>hi (hR.inj i id C5 (bD h0 (fJ Kv)) e);constructor;intro i l kP;rw[bz]at kP;by_cases h:i=id;rw[if_pos h]at kP;cases kP;cases hb
 rw[if_neg h]at kP;obtain⟨a,e,h1,h2,h3⟩:=hR.cells i l kP;exact⟨a,e,(Iw i h (bD kP ae)).trans h1,h2,λj c hc=>(h3 j c hc).mono M⟩;intro i e s n kP;rw[bz]at kP;by_cases h:i=id;rw[if_pos h]at kP;cases kP;cases hb
 rw[if_neg h]at kP;obtain⟨a,h1,h2⟩:=hR.ej i e s n kP;exact⟨a,(Iw i h (bD kP ae)).trans h1,h2⟩;intro i c kP hc;rw[bz]at kP;by_cases h:i=id;subst h;rw[if_pos rfl]at kP;cases kP;exact⟨o,Aq _ _ _ _ hob,ho⟩;rw[if_neg h]at kP;obtain⟨o',h1,h2⟩:=hR.eH i c kP hc;exact⟨o',(Iw i h (bD kP (fJ hc))).trans h1,h2.mono M⟩;exactλi j hi hj he=>hR.inj i j (pQ i hi) (pQ j hj) he;intro c p h;obtain⟨v,hv⟩:=hR.AE c p h;exact⟨v,(M.fz c p h).2.trans hv⟩;rintro i ⟨l,kP⟩ p hp;rw[bz]at kP;by_cases h:i=id;rw[if_pos h]at kP;cases kP;cases hb
 rw[if_neg h]at kP;exact hR.sep i ⟨l,kP⟩ p hp;intro i e s n kP p hp;rw[bz]at kP;by_cases h:i=id;rw[if_pos h]at kP;cases kP;cases hb
 rw[if_neg h]at kP;exact hR.oV i e s n kP p hp;intro i e s l z kP;rw[bz]at kP;by_cases h:i=id;rw[if_pos h]at kP;cases kP;cases hb
 rw[if_neg h]at kP;obtain⟨a,h1,h2,h3,h4,h5,h6⟩:=hR.ops i e s l z kP;exact⟨a,(Iw i h (bD kP ae)).trans h1,h2,h3,h4,λj c hc=>⟨(h5 j c hc).1,(h5 j c hc).2.mono M⟩,h6⟩
theorem lM{r:Nat}{o o0:Obj}{w:World}(h:w.heap[r]? =some o0)(hn:∀arr e fr,o0≠.cells arr e fr):(setObj r o).run P w=.ok () (cK w r o):=by simp only[setObj,Sem.run,h];cases o0<;>first|rfl|exact absurd rfl (hn _ _ _)
theorem jN{r:Nat}{o0:Obj}{w:World}(h:w.heap[r]? =some o0)(hn:∀arr e fr,o0≠.cells arr e fr):(getObj r).run P w=.ok o0 w:=by unfold getObj Sem.run;rw[h];cases o0<;>first|rfl|exact absurd rfl (hn _ _ _)
end Go.Di
namespace Go.Di
open Go
variable {P:Program} {ty:gb} {x:Cx} {w':World}
theorem qw{t:TypeId}{i:TypeInfo}(h:Gz P t=some i):P.info? t=some i/\∃d,P.underlying t=some d:=by
 unfold Gz at h;split at h
 grind
 cases h
theorem cu{t:TypeId}{k:TK}{sz:Nat}{z:Option cj}(h:Va P t=some ⟨k,sz,z⟩):FQ P t=some k/\∃i,P.info? t=some i/\i.size=sz/\zeroOf i=z:=by
 unfold Va at h;split at h
 grind
 cases h
theorem jU{i:TypeInfo}{cs:cj}(h:zeroOf i=some cs):∃z,i.zero=some z/\tw z.cells.toList=some cs/\cs.length=i.size:=by
 unfold zeroOf at h;split at h
 grind
 cases h
theorem mQ{t:TypeId}{e s b:Nat}{agg:Bool}(h:FQ P t=some (.slice e s b agg)):P.underlying t=some (.slice e)/\∃i,P.info? e=some i/\i.size=s/\i.bytes=b/\qg P e=agg:=by
 unfold FQ at h;split at h;simp only[ah]at h;obtain⟨_,_,h⟩:=h;cases h
 simp only[ah]at h;obtain⟨_,_,h⟩:=h;cases h
 rename_i e' he;simp only[ah]at h;obtain⟨i,h1,h⟩:=h;cases h;exact⟨he,i,(qw h1).1,rfl,rfl,rfl⟩;cases h;cases h
theorem zQ{t:TypeId}{n s:Nat}{agg:Bool}(h:FQ P t=some (.array n s agg)):∃e,P.underlying t=some (.array n e)/\∃i,P.info? e=some i/\i.size=s/\qg P e=agg/\∃d0,P.underlying e=some d0:=by
 unfold FQ at h;split at h;simp only[ah]at h;obtain⟨_,_,h⟩:=h;cases h
 rename_i m e' he;simp only[ah]at h;obtain⟨i,h1,h⟩:=h;cases h;exact⟨e',he,i,(qw h1).1,rfl,rfl,(qw h1).2⟩;simp only[ah]at h;obtain⟨_,_,h⟩:=h;cases h
 cases h;cases h
def JR(P:Program)(f:Field)(r:Nat×Nat×Bool):Prop:=f.offset=r.1/\∃i,P.info? f.type=some i/\i.size=r.2.1/\qg P f.type=r.2.2/\∃d0,P.underlying f.type=some d0
theorem Ct:∀{l:List Field}{fs:List (Nat×Nat×Bool)},(l.mapM λf=>(Gz P f.type).map λi=>(f.offset,i.size,qg P f.type))=some fs->l.length=fs.length/\∀(j:Nat)(r:Nat×Nat×Bool),fs[j]? =some r->∃f,l[j]? =some f/\JR P f r
 |[],fs,h=>by grind
 |f::l,fs,h=>by
  simp only[List.mapM_cons,Option.bind_eq_bind,mP,ah,Option.pure_def,aG]at h;obtain⟨r,⟨i,h1,rfl⟩,xL,h2,rfl⟩:=h;obtain⟨h3,h4⟩:=Ct h2;refine⟨by simp[h3],λj r hr=>?_⟩;cases j with
  |zero=>simp only[eu,aG]at hr;subst hr;exact⟨f,rfl,rfl,i,(qw h1).1,rfl,rfl,(qw h1).2⟩
  |succ j=>simpa using h4 j r (by simpa using hr)
theorem Bg{t:TypeId}{fs:List (Nat×Nat×Bool)}(h:FQ P t=some (.struct fs)):∃fields:Array Field,P.underlying t=some (.struct fields)/\fields.size=fs.length/\∀(j:Nat)(r:Nat×Nat×Bool),fs[j]? =some r->∃f,fields[j]? =some f/\JR P f r:=by
 unfold FQ at h;split at h;rename_i fields he;simp only[ah]at h;obtain⟨xL,h1,h⟩:=h;cases h;obtain⟨h2,h3⟩:=Ct h1;exact⟨fields,he,by simpa using h2,λj r hr=>by simpa using h3 j r hr⟩;simp only[ah]at h;obtain⟨_,_,h⟩:=h;cases h
 simp only[ah]at h;obtain⟨_,_,h⟩:=h;cases h
 cases h;cases h
theorem NX{t:TypeId}{k:TK}(h:FQ P t=some k):k.isAgg=qg P t/\∃d,P.underlying t=some d:=by
 unfold FQ at h;unfold qg;split at h;rename_i fields he;simp only[ah]at h;obtain⟨_,_,rfl⟩:=h;rw[he];exact⟨rfl,_,rfl⟩
 rename_i n e he;simp only[ah]at h;obtain⟨_,_,rfl⟩:=h;rw[he];exact⟨rfl,_,rfl⟩
 rename_i e he;simp only[ah]at h;obtain⟨_,_,rfl⟩:=h;rw[he];exact⟨rfl,_,rfl⟩
 rename_i d h1 h2 h3 he;cases h;rw[he];refine⟨?_,_,rfl⟩;cases d with
 |struct fs=>exact(h1 fs rfl).elim
 |array n e=>exact(h2 n e rfl).elim
 |_=>rfl
 cases h
theorem wL{t:TypeId}{d:TypeDesc}(h:P.underlying t=some d)(w:World):(isAgg t).run P w=.ok (qg P t) w:=by unfold isAgg qg;simp only[Sem.run_bind,run_underlying h,Result.andThen_ok,h];cases d<;>rfl
theorem run_sizeOf{t:TypeId}{i:TypeInfo}(h:P.info? t=some i)(w:World):(sizeOf t).run P w=.ok i.size w:=by simp[sizeOf,typeInfo,h]
theorem Qk{l:cj}{v:Value}(h:RV x (.agg l) v):∃vs,v=.agg vs/\ig x l vs:=by cases h with|agg h hl=>exact⟨_,rfl,h,hl⟩
theorem Ae{s:Nat}:∀{rows:cj},(∀r∈rows,r.cells.length=s)->∀{i:Nat}{r:DV},rows[i]? =some r->∀{j:Nat},j<s->(flat rows)[i*s+j]? =r.cells[j]?
 |[],_,i,r,h,_,_=>by simp at h
 |r0::rows,hs,i,r,h,j,hj=>by
  have h0:r0.cells.length=s:=hs r0 ae;simp only[flat,cz];cases i with
  |zero=>grind
  |succ i=>
   have he:(i+1)*s+j=s+(i*s+j):=by rw[nN];omega
   rw[he,jr ab,h0,tM];exact Ae (rows:=rows) (λr hr=>hs r (by simp[hr])) (by simpa using h) hj
theorem iH{s:Nat}:∀{rows:cj},(∀r∈rows,r.cells.length=s)->(flat rows).length=rows.length*s
 |[],_=>by simp[flat]
 |r::rows,h=>by have:=iH (rows:=rows) λr hr=>h r (by simp[hr]);have h0:=h r ae;simp only[flat]at this;simp only[flat,cz,cn,this,h0,di,nN];omega
theorem iY(b o n:Nat):(⟨b,o,none⟩:Addr).add n=⟨b,o+n,none⟩:=by unfold Addr.add;split<;>simp_all
theorem HT{l cs:cj}{off n:Nat}(h:Vq l off n=some cs):cs.length=n/\off+n<=l.length/\∀j,j<n->cs[j]? =l[off+j]? :=by
 unfold Vq at h;split at h
 grind
 cases h
theorem Bz{t:TypeId}{i:TypeInfo}{d0:TypeDesc}{b o off size:Nat}{agg:Bool}{l:cj}{d:DV}(hi:P.info? t=some i)(hu:P.underlying t=some d0)(hs:i.size=size)(ha:qg P t=agg)
  (hc:∀j c,l[j]? =some c->∃v,x.w.cell? ⟨b,o+j,none⟩=some v/\RV x c v) (h:pY agg size l off=some d):∃v,(loadVar t ⟨b,o+off,none⟩).run P x.w=.ok v x.w/\RV x d v:=by
 unfold pY at h;subst ha;cases Ic:qg P t with
 |true=>
  rw[Ic,if_pos rfl,ah]at h;obtain⟨cs,h1,rfl⟩:=h;obtain⟨h2,h3,h4⟩:=HT h1;have hf:∀j,j<size->∃v,x.w.cell? ⟨b,o+off+j,none⟩=some v/\∀c,cs[j]? =some c->RV x c v:=by grind
  let f:Nat->Value:=λj=>if hj:j<size then(hf j hj).choose else undef
  have Nr:∀j,j<size->x.w.cell? ⟨b,o+off+j,none⟩=some (f j):=λj hj=>by simp only[f,dif_pos hj];exact(hf j hj).choose_spec.1
  have UW:∀j,j<size->∀c,cs[j]? =some c->RV x c (f j):=λj hj=>by simp only[f,dif_pos hj];exact(hf j hj).choose_spec.2
  refine⟨.agg ((List.range size).map f).toArray,?_,.agg (by simp[h2]) λj c rS=>?_⟩;unfold loadVar;simp only[Sem.run_bind,wL hu,Ic,Result.andThen_ok,if_true,run_sizeOf hi,hs];rw[run_loadCells (P:=P) x.w ⟨b,o+off,none⟩ size f λj hj=>by rw[iY];exact Nr j hj];rfl;have hj:j<size:=by have:=(aM.1 rS).1;omega
  have:=UW j hj c rS;simpa [bF,hj]using this
 |false=>rw[Ic]at h;simp only[aK,if_false]at h;obtain⟨v,k1,k2⟩:=hc off d h;refine⟨v,?_,k2⟩;unfold loadVar;simp only[Sem.run_bind,wL hu,Ic,Result.andThen_ok,aK,if_false,run_load,k1]
theorem QA{t:TypeId}{i:TypeInfo}{d0:TypeDesc}{off size:Nat}{agg:Bool}{l:cj}{arr:Array Value}{d:DV}(hi:P.info? t=some i)(hu:P.underlying t=some d0)(hs:i.size=size)(ha:qg P t=agg)
  (hc:ig x l arr) (h:pY agg size l off=some d) (w:World):∃v,(part t arr off).run P w=.ok v w/\RV x d v:=by
 unfold pY at h;subst ha;cases Ic:qg P t with
 |true=>
  rw[Ic,if_pos rfl,ah]at h;obtain⟨cs,h1,rfl⟩:=h;obtain⟨h2,h3,h4⟩:=HT h1;refine⟨.agg (arr.extract off (off+size)),?_,.agg (by simp[h2,hc.1];omega) λj c rS=>?_⟩;unfold part;simp only[Sem.run_bind,wL hu,Ic,Result.andThen_ok,if_true,run_sizeOf hi,hs];rfl;have hj:j<size:=by have:=(aM.1 rS).1;omega
  rw[h4 j hj]at rS;have:=hc.2 _ _ rS;have hlt:off+j<arr.size:=by rw[hc.1];omega
  simp only[bF,Array.getElem?_extract]at this⊢;rw[if_pos ab];exact this
 |false=>
  rw[Ic]at h;simp only[aK,if_false]at h;have hlt:off<arr.size:=by rw[hc.1];exact(aM.1 h).1
  refine⟨arr[off],?_,by simpa [bF,hlt]using hc.2 _ _ h⟩;unfold part;simp only[Sem.run_bind,wL hu,Ic,Result.andThen_ok,aK,if_false,cD hlt,Sem.run_pure]
theorem one_cell{d:DV}{v:Value}(h:RV x d v)(h1:d.one=true):v.oneCell'=true/\d.cells=[d]/\v.cells=#[v]:=by
 cases h with
 |@val v h=>
  cases v with
  |tuple vs=>simp[DV.one]at h1
  |agg vs=>simp[A3]at h
  |_=>exact⟨rfl,rfl,rfl⟩
 |agg h hl=>simp[DV.one]at h1
 |tup h hl=>simp[DV.one]at h1
 |sl hv hr h1 h2 h3 hsp h4=>exact⟨rfl,rfl,rfl⟩
 |ptr h=>exact⟨rfl,rfl,rfl⟩
 |fM hv hr=>exact⟨rfl,rfl,rfl⟩
 |fn h1 h2 h3 h4=>exact⟨rfl,rfl,rfl⟩
 |map h=>exact⟨rfl,rfl,rfl⟩
 |oz h=>exact⟨rfl,rfl,rfl⟩
 |jX h h1 h2=>exact⟨rfl,rfl,rfl⟩
 |gF h h1 h2=>exact⟨rfl,rfl,rfl⟩
theorem vr{d:DV}{v:Value}(h:RV x d v):ig x d.cells v.cells:=by
 have key:d.cells=[d]->v.cells=#[v]->ig x d.cells v.cells:=λh1 h2=>by
  rw[h1,h2];refine⟨rfl,λj c hc=>?_⟩;cases j with
  |zero=>simp only[eu,aG]at hc;subst hc;exact h
  |succ j=>simp at hc
 cases h with
 |agg h hl=>exact⟨h,hl⟩
 |@val v h=>
  cases v with
  |agg vs=>simp[A3]at h
  |_=>exact key rfl rfl
 |_=>exact key rfl rfl
theorem cells_one{d:DV}{v:Value}(h:RV x d v)(h1:d.cells.all DV.one=true):∀u∈v.cells.toList,u.oneCell'=true:=by
 intro u hu;have hc:=vr h;obtain⟨j,hj,rfl⟩:=List.mem_iff_getElem.1 hu;have AL:j<d.cells.length:=by rw[<-hc.1];simpa using hj
 have h2:=hc.2 j d.cells[j] (cq AL);have h3:d.cells[j].one=true:=aX.1 h1 _ (nQ AL);have h4:=(one_cell h2 h3).1;have hj2:j<v.cells.size:=by simpa using hj
 simpa [bF,hj2]using h4
theorem sI{l cs l':cj}{off:Nat}(h:wV l off cs=some l'):off+cs.length<=l.length/\l'=l.take off++cs++l.drop (off+cs.length):=by
 unfold wV at h;split at h
 grind
 cases h
theorem Jt{l cs:cj}{arr vs:Array Value}{off:Nat}(hle:l.length<=arr.size)(ha:∀j c,l[j]? =some c->RV x c (arr.getD j undef))(hv:ig x cs vs)(h1:off<=l.length)(h2:off+cs.length<=arr.size):
  ∀j c,(l.take off++cs++l.drop (off+cs.length))[j]? =some c->RV x c ((arr.toList.take off++vs.toList++arr.toList.drop (off+vs.size)).toArray.getD j undef):=by
 intro j c hc;have e2:=hv.1;simp only[bF,List.getElem?_toArray];by_cases c1:j<off;rw[iO,fI (by simp;omega),wD,if_pos c1]at hc⊢;have:=ha j c hc;simpa [bF]using this;by_cases c2:j<off+cs.length;rw[fI (by simp;omega),jr (by simp;omega)]at hc⊢;have e3:(l.take off).length=off:=by simp;omega
 have e4:(arr.toList.take off).length=off:=by simp;omega
 rw[e3]at hc;rw[e4];have:=hv.2 _ _ hc;simpa [bF]using this;have e3:(l.take off++cs).length=off+cs.length:=by simp;omega
 have e4:(arr.toList.take off++vs.toList).length=off+cs.length:=by simp;omega
 rw[jr ab,e3,zG]at hc;rw[jr ab,e4,zG];have e5:off+vs.size+(j-(off+cs.length))=off+cs.length+(j-(off+cs.length)):=ab
 rw[e5];have:=ha _ c hc;simpa [bF]using this
theorem Qj{l cs l':cj}{arr vs:Array Value}{off:Nat}(hl:ig x l arr)(hv:ig x cs vs)(h:wV l off cs=some l'):ig x l' (arr.toList.take off++vs.toList++arr.toList.drop (off+vs.size)).toArray:=by obtain⟨h1,rfl⟩:=sI h;have e1:=hl.1;have e2:=hv.1;exact⟨by simp;omega,Jt ab hl.2 hv ab ab⟩
theorem mR{S:ai}{id n e s:Nat}{l:cj}{z:Bool}(h:C2 S id n=some (e,s,l,z)):S[id]? =some (.op e s l z)/\n*s=l.length:=by
 unfold C2 at h;split at h
 grind
 cases h
theorem Tc{c:DV}(h:c.ct=true):c.one=true:=by cases c<;>simp_all [DV.ct,DV.one]
end Go.Di
namespace Go.Di
open Go
variable {P:Program} {ty:gb} {x:Cx} {w':World} {aI:b9} {call:bG}
def Yields(x:Cx)(r:Result Next)(d:DV)(S':ai):Prop:=∃v y,(r=.ok (.value v) y.w\/(r=.ok .skip y.w/\v=undef))/\y.S=S'/\Rel y/\cg x y/\RV y d v
theorem iG{s:Sem Value}{d:DV}{S':ai}{v:Value}{y:Cx}(h:s.run P x.w=.ok v y.w)(h1:y.S=S')(h2:Rel y)(h3:cg x y)(h4:RV y d v):Yields x ((do pure (.value (<-s)):Sem Next).run P x.w) d S':=
 ⟨v,y,.inl (by simp[h]),h1,h2,h3,h4⟩
theorem bk{s:Sem Value}{d:DV}{v:Value}(hR:Rel x)(h:s.run P x.w=.ok v x.w)(h4:RV x d v):Yields x ((do pure (.value (<-s)):Sem Next).run P x.w) d x.S:=iG h rfl hR (cg.refl x) h4
theorem Le{s:Sem Unit}{S':ai}{y:Cx}(h:s.run P x.w=.ok () y.w)(h1:y.S=S')(h2:Rel y)(h3:cg x y):Yields x ((do s;pure .skip:Sem Next).run P x.w) bK S':=
 ⟨undef,y,.inr ⟨by simp[h],rfl⟩,h1,h2,h3,.val rfl⟩
theorem pM{s:Sem Value}{d:DV}(h:jC P s=some d)(w:World):∃v,s.run P w=.ok v w/\RV x d v:=by unfold jC at h;simp only[mP]at h;obtain⟨v,h1,h2⟩:=h;exact⟨v,pL h1 w,zT h2⟩
def kM(P:Program)(ty:gb):Prop:=∀t d,ty t=some d->Va P t=some d
variable {ρd:Operand->Option DV} {ρ:Operand->Value} {o:Oper} {aC:Nat}
def yT(x:Cx)(ρd:Operand->Option DV)(ρ:Operand->Value):Prop:=∀a d,ρd a=some d->RV x d (ρ a)
theorem gv(hρ:yT x ρd ρ){a:Operand}{v:Value}(h:valOf ρd a=some v):ρ a=v:=by unfold valOf at h;simp only[mP]at h;obtain⟨d,h1,h2⟩:=h;exact Lz (hρ a d h1) h2
theorem ou(hρ:yT x ρd ρ){a:Operand}{n:Int}(h:intOf ρd a=some n):∃k,ρ a=.int k n:=by unfold intOf at h;split at h;rename_i k m h1;cases h;exact⟨k,xX (hρ a _ h1)⟩;cases h
theorem xZ(hρ:yT x ρd ρ):∀{l:List Operand}{r:cj},evs ρd l=some r->ig x r (l.map ρ).toArray
 |[],r,h=>by simp only[evs,aG]at h;subst h;exact⟨rfl,ae⟩
 |a::l,r,h=>by
  unfold evs at h;split at h;rename_i d r' h1 h2;cases h;obtain⟨h3,h4⟩:=xZ hρ h2;refine⟨by simpa using h3,λj c hc=>?_⟩;cases j with
  |zero=>simp only[eu,aG]at hc;subst hc;exact hρ a _ h1
  |succ j=>simpa [bF]using h4 j c (by simpa using hc)
  cases h
theorem Yu(fN:kM P ty)(hR:Rel x)(hn:FI x.S aC){e:TypeId}{k:TK}{sz:Nat}{z:cj}(h:ty e=some ⟨k,sz,some z⟩):
  Yields x ((do pure (.value (<-Instr.alloc e true (.tuple #[]))):Sem Next).run P x.w) (.ptr aC 0) (fu x.S aC (.cells z)):=by
 obtain⟨-,i,hi,-,hz⟩:=cu (fN e _ h);obtain⟨zv,h1,h2,-⟩:=jU hz;obtain⟨h3,h4⟩:=iQ (x:=x) h2;have hp:pS x.w (x.w.alloc (.cells zv.cells e)) (.cells zv.cells e (0,0)):=hU _ _;have mY:=nu (k:=0) (F:=λ_=>False) (b:=.cells z) hR hn hp ae (.inl ⟨z,zv.cells,e,rfl,rfl,by simpa using h3,ae,λj c hc=>by simpa [bF,aU]using h4 j c hc⟩);refine iG (y:=x.fresh _ aC 0 (λ_=>False) (.cells z)) (v:=.pointer (some ⟨x.w.heap.size,0,none⟩)) ?_ rfl mY (jS hR hn hp) ?_;simp[Instr.alloc,zeroValue,typeInfo,hi,h1,newVar,newRow,Cx.fresh];have:(x.fresh (x.w.alloc (.cells zv.cells e)) aC 0 (λ_=>False) (.cells z)).μ aC=x.w.heap.size:=if_pos rfl;rw[<-this];exact .ptr (l:=z) (by show(fu _ _ _)[_]? =_;rw[bN hn.le,if_pos rfl])
theorem afR(hR:Rel x)(hn:FI x.S aC){e:TypeId}{d:DV}{v:Value}(h:RV x d v):
  Yields x ((do pure (.value (<-Instr.box e v)):Sem Next).run P x.w) (.ptr aC 0) (fu x.S aC (.cells d.cells)):=by
 obtain⟨h3,h4⟩:=vr h;have hp:pS x.w (x.w.alloc (.cells v.cells e)) (.cells v.cells e (0,0)):=hU _ _;have mY:=nu (k:=0) (F:=λ_=>False) (b:=.cells d.cells) hR hn hp ae (.inl ⟨d.cells,v.cells,e,rfl,rfl,h3,ae,h4⟩);refine iG (y:=x.fresh _ aC 0 (λ_=>False) (.cells d.cells)) (v:=.pointer (some ⟨x.w.heap.size,0,none⟩)) ?_ rfl mY (jS hR hn hp) ?_;simp[Instr.box,newVar,newRow,Cx.fresh];have:(x.fresh (x.w.alloc (.cells v.cells e)) aC 0 (λ_=>False) (.cells d.cells)).μ aC=x.w.heap.size:=if_pos rfl;rw[<-this];exact .ptr (l:=d.cells) (by show(fu _ _ _)[_]? =_;rw[bN hn.le,if_pos rfl])
theorem Sw{rows:cj}{b o s:Nat}{vs:Nat->Value}(hv:View x rows (some ⟨b,o,none⟩) s vs)(hr:∀j c,(flat rows)[j]? =some c->RV x c (vs j)){i:Nat}{r:DV}(h:rows[i]? =some r):
  ∀j c,r.cells[j]? =some c->∃v,x.w.cell? ⟨b,o+i*s+j,none⟩=some v/\RV x c v:=by
 intro j c hc;have hj:j<s:=by rw[<-hv.1 r (cB h)];exact(aM.1 hc).1
 have hf:=Ae hv.1 h hj;rw[hc]at hf;obtain⟨-,b',o',h1,-,h2⟩:=hv.2 _ _ hf;cases h1;exact⟨_,by rw[gf];exact h2,hr _ _ hf⟩
theorem Mc(fN:kM P ty)(hR:Rel x){t:TypeId}{a d:DV}{va:Value}(ha:RV x a va)(h:lQ ty x.S t a=some d):∃v,(Instr.loadAt t va).run P x.w=.ok v x.w/\RV x d v:=by
 unfold lQ at h;split at h;rename_i td id off hk;obtain⟨k,sz,z⟩:=td;obtain⟨vU,i,hi,hs,-⟩:=cu (fN t _ hk);obtain⟨Ic,d0,hu⟩:=NX vU;split at h;rename_i l hl;obtain⟨arr,e,h1,h2,h3⟩:=hR.cells id l hl;cases ha with
 |ptr _=>
  have:=Bz (x:=x) (b:=x.μ id) (o:=0) (l:=l) hi hu hs Ic.symm (λj c hc=>?_) h;obtain⟨v,h4,h5⟩:=this;refine⟨v,?_,h5⟩;simpa [Instr.loadAt,Instr.sureAddr]using h4;have hj:j<arr.size:=by rw[h2];exact(aM.1 hc).1
  refine⟨arr[j],?_,by simpa [bF,hj]using h3 j c hc⟩;simp[World.cell?,h1,hj]
 cases h;rename_i td rows i off hk;obtain⟨k,sz,z⟩:=td;obtain⟨vU,inf,hi,hs,-⟩:=cu (fN t _ hk);obtain⟨Ic,d0,hu⟩:=NX vU;split at h;rename_i r hr;cases ha with
 |@fM _ _ _ b o s vs hv Uu=>obtain⟨v,h4,h5⟩:=Bz (x:=x) (b:=b) (o:=o+i*s) (l:=r.cells) hi hu hs Ic.symm (Sw hv Uu hr) h;refine⟨v,?_,h5⟩;rw[gf]at h4;simpa [Instr.loadAt,Instr.sureAddr]using h4
 cases h;rename_i td id n off hk;obtain⟨k,sz,z⟩:=td;obtain⟨vU,i,hi,hs,-⟩:=cu (fN t _ hk);obtain⟨Ic,d0,hu⟩:=NX vU;split at h;rename_i e s l zz hop;obtain⟨hS,Ib⟩:=mR hop;obtain⟨arr,h1,-,h2,-,h3,-⟩:=hR.ops id e s l zz hS;cases ha with
 |gF C6 AK hA=>rw[hS]at C6;cases C6;rw[hA Ib];obtain⟨v,h4,h5⟩:=Bz (x:=x) (b:=x.μ id) (o:=0) (l:=l) hi hu hs Ic.symm (λj c hc=>by have hj:j<arr.size:=dD (aM.1 hc).1 h2;refine⟨arr[j],?_,by simpa [bF,hj]using(h3 j c hc).2⟩;simp[World.cell?,h1,hj]) h;exact⟨v,by simpa [Instr.loadAt,Instr.sureAddr]using h4,h5⟩
 cases h;cases h
theorem SH(fN:kM P ty)(hR:Rel x){t:TypeId}{a d:DV}{va vd:Value}{S':ai}(ha:RV x a va)(hd:RV x d vd)(h:qi ty x.S t a d=some S'):
  ∃y,(Instr.storeAt t va vd).run P x.w=.ok () y.w/\y.S=S'/\Rel y/\cg x y:=by
 unfold qi at h;split at h;rename_i td id off hk;obtain⟨k,sz,z⟩:=td;obtain⟨vU,i,hi,hs,-⟩:=cu (fN t _ hk);split at h;rename_i l hl;split at h;rename_i hc;simp only[aD,cA]at hc;simp only[ah]at h;obtain⟨l',h6,rfl⟩:=h;obtain⟨arr,e,h1,h2,h3⟩:=hR.cells id l hl;have s9:=vr hd;cases ha with
 |ptr _=>
  have hp:=Qj ⟨h2,h3⟩ s9 h6;obtain⟨h7,h8⟩:=sI h6;refine⟨x.upd id (arr.toList.take off++vd.cells.toList++arr.toList.drop (off+vd.cells.size)).toArray (λ_=>False) (.cells l'),?_,rfl,Dc hR hl (.inl ⟨l,l',rfl,rfl,ae,hp.1,hp.2⟩),vA hR hl (.inl ⟨l,l',rfl,rfl⟩)⟩;have hst:=run_storeCells_at P (x.μ id) off e vd.cells.toList 0 arr x.w h1 (by simp only[Nat.add_zero,zI];rw[s9.1,h2];exact h7) (cells_one hd hc.2);simp only[Nat.add_zero,zI]at hst;have hsz:¬(vd.cells.size≠i.size):=by rw[s9.1,hc.1,hs];simp
  simp only[Instr.storeAt,Instr.sureAddr,Sem.run_bind,Sem.run_pure,Result.andThen_ok,storeVar,run_sizeOf hi,if_neg hsz];exact hst
 cases h;cases h;rename_i td id n off hk;obtain⟨k,sz,z⟩:=td;obtain⟨vU,i,hi,hs,-⟩:=cu (fN t _ hk);split at h;rename_i e s l hop;obtain⟨hS,Ib⟩:=mR hop;split at h;rename_i hc;simp only[aD,cA]at hc;simp only[ah]at h;obtain⟨l',h6,rfl⟩:=h;obtain⟨arr,h1,h0,h2,hκ,h3,-,-⟩:=hR.ops id e s l false hS;have yH:=hd.strip;have s9:=vr yH;cases ha with
 |gF C6 AK hA=>
  rw[hS]at C6;cases C6;rw[hA Ib];obtain⟨h7,h8⟩:=sI h6;have hp:=Jt (off:=off) h2 (λj c hc=>(h3 j c hc).2) s9 ab ab;rw[<-h8]at hp;have ZU:∀c∈l',c.ct=true:=λc hm=>by
   rw[h8]at hm;rcases eG.1 hm with hm|hm;rcases eG.1 hm with hm|hm;obtain⟨j,hj⟩:=tL.1 (zL hm);exact(h3 j c hj).1
   grind
   obtain⟨j,hj⟩:=tL.1 (List.mem_of_mem_drop hm);exact(h3 j c hj).1
  have hll:l'.length=l.length:=by rw[h8];simp;omega
  have agJ:(arr.toList.take off++vd.cells.toList++arr.toList.drop (off+vd.cells.size)).toArray.size=arr.size:=by have:=s9.1;simp;omega
  refine⟨x.upd id (arr.toList.take off++vd.cells.toList++arr.toList.drop (off+vd.cells.size)).toArray (λ_=>False) (.op e s l' false),?_,rfl,Dc hR hS (.inr (.inr ⟨e,s,l,l',rfl,rfl,ab,ae,by rw[agJ];exact h0,by rw[agJ];omega,λj c hj=>⟨ZU c (cB hj),hp j c hj⟩⟩)),vA hR hS (.inr (.inr ⟨e,s,l,l',rfl,rfl,ab⟩))⟩;have hst:=run_storeCells_at P (x.μ id) off e vd.cells.toList 0 arr x.w h1 (by simp only[Nat.add_zero,zI];rw[s9.1];omega) (cells_one yH (aX.2 λc hm=>Tc (aX.1 hc.2 c hm)));simp only[Nat.add_zero,zI]at hst;have hsz:¬(vd.cells.size≠i.size):=by rw[s9.1,hc.1,hs];simp
  simp only[Instr.storeAt,Instr.sureAddr,Sem.run_bind,Sem.run_pure,Result.andThen_ok,storeVar,run_sizeOf hi,if_neg hsz];exact hst
 cases h;cases h;cases h
end Go.Di
