import Derived.Test.YtedcgbkilmlbhaaPk03
namespace Go.Tv
open Go Go.Di
variable {P:Program} {ty:fP} {tt:TypeId->Option TT} {ι ι' w:lq} {S S':ai} {te:List TV} {env:List DV} {tS:List TB} {aI:bS} {call:bt} {yf:ew} {o:Oper} {aD nT:Nat} {B:List Nat} {r:TR} {ops:Array Oper}
def WQ(P:Program)(ty:fP)(aI:bS)(call:bt)(yf:ew)(ops:Array Oper)(tS:List TB)(k:Nat)(te:List TV)(Q:List TV->Prop):Prop:=
 ∀ι env S,bT ι te tS env S->∃aK bZ,ry P ty aI call yf ops S (ops.toList.drop k) env=some aK/\bT ι bZ tS aK S/\Q bZ
theorem Vb{k:Nat}(hk:ops.size<=k){Q:List TV->Prop}(h:Q te):WQ P ty aI call yf ops tS k te Q:=by intro ι env S hR;rw[j5 (by simpa using hk)];exact⟨env,te,rfl,hR,h⟩
theorem ZG{k:Nat}(ho:ops[k]? =some o)(hw:eD ops te o=some false){Q:List TV->Prop}(h:WQ P ty aI call yf ops tS (k+1) (ki te o.dst Q0) Q):WQ P ty aI call yf ops tS k te Q:=by intro ι env S hR;obtain⟨aK,bZ,k1,k2,k3⟩:=h ι (kC env o.dst bE) S (oP hR Na _);refine⟨aK,bZ,?_,k2,k3⟩;rw[oV ho];simp only[ry,iP hR.env hw,aG,if_false,k1]
theorem N4{ρ:Operand->Option DV}{d:DV}(hp:∃q,bP P ty tt te tS o=some q)(h:ah P ty aI call yf ρ o S S.length=some (d,S)):dH P ty aI call yf ρ o S=some d:=by
 obtain⟨q,hp⟩:=hp;cases ho:o.op with
 |alloc e=>simp only[bP,ho]at hp;cases hp
 |box t x=>simp only[bP,ho]at hp;cases hp
 |store t a x=>simp only[bP,ho]at hp;cases hp
 |makeMap t x=>simp only[bP,ho]at hp;cases hp
 |makeSlice t x y=>simp only[bP,ho]at hp;cases hp
 |buildSlice t n ps=>
  have hh:ty.h o≠1:=by
   simp only[bP,ho]at hp;intro e;split at hp
   .split at hp;.simp[e]at hp
    cases hp
   cases hp
  simp only[dH,ho,h,av]
 |mapUpdate t m k b=>simp only[bP,ho]at hp;cases hp
 |call cl=>
  obtain⟨callee,args,argTypes⟩:=cl;cases callee with
  |builtin b=>
   cases b with
   |append=>simp only[bP,ho]at hp;cases hp
   |_=>simp only[dH,ho,h,av]
  |value f=>simp only[bP,ho]at hp;cases hp
  |_=>simp only[dH,ho,h,av]
 |_=>simp only[dH,ho,h,av]
theorem II{k:Nat}{v:TV}{c:Prop}(ho:ops[k]? =some o)(hw:eD ops te o=some true)(hp:bP P ty tt te tS o=some (v,c))(hc:c){Q:List TV->Prop}(h:WQ P ty aI call yf ops tS (k+1) (ki te o.dst v) Q):WQ P ty aI call yf ops tS k te Q:=by intro ι env S hR;obtain⟨d,h1,h2⟩:=Lc (aI:=aI) (call:=call) (yf:=yf) (aD:=S.length) hR.env hR.cells hp hc;obtain⟨aK,bZ,k1,k2,k3⟩:=h ι (kC env o.dst d) S (oP hR h2 _);refine⟨aK,bZ,?_,k2,k3⟩;rw[oV ho];simp only[ry,iP hR.env hw,if_true,N4 ⟨_,hp⟩ h1,k1]
def Ph(w:lq):List dm->List dm->Prop
 |[],[]=>True
 |f::l,g::m=>KF w f g/\Ph w l m
 |_,_=>False
theorem EC{w:lq}:∀{l m:List dm}{i:Nat}{f:dm},Ph w l m->l[i]? =some f->∃g,m[i]? =some g/\KF w f g
 |[],_,_,_,_,h=>by simp at h
 |_::_,[],_,_,h,_=>h.elim
 |f::l,g::m,0,f',h,hx=>by simp only[cg,aB]at hx;subst hx;exact⟨g,rfl,h.1⟩
 |f::l,g::m,i+1,f',h,hx=>by obtain⟨g',h1,h2⟩:=EC (i:=i) h.2 (by simpa using hx);exact⟨g',by simpa using h1,h2⟩
theorem Xz{w:lq}{f g f' g':dm}(hf:KF w f f')(hg:KF w g g')(h:f.meets g=true):f'.meets g'=true:=by
 obtain⟨fi,fw⟩:=f;obtain⟨gi,gw⟩:=g;obtain⟨fi',fw'⟩:=f';obtain⟨gi',gw'⟩:=g';obtain⟨MG,Tx⟩:=hf;obtain⟨hg1,hg2⟩:=hg;simp only[dm.meets,aA,gP]at h⊢;refine⟨h.1.imp MG hg1,?_⟩;have h:=h.2;have ne:∀{m l:List Nat},(∀j∈m,∃k∈l,w j=some k)->m≠[]->(!l.isEmpty)=true:=by
  intro m l hml hm;cases m with
  |nil=>exact(hm rfl).elim
  |cons j m=>
   obtain⟨k,hk,-⟩:=hml j (by simp);cases l with
   |nil=>cases hk
   |cons _ _=>rfl
 cases fi' with
 |none=>
  cases gi' with
  |none=>rfl
  |some l'=>obtain⟨m,e,hm⟩:=hg2 _ rfl;simp only at e;subst e;refine ne hm ?_;rintro rfl;cases fi<;>simp at h
 |some l=>
  obtain⟨m,e,hm⟩:=Tx _ rfl;simp only at e;subst e;cases gi' with
  |none=>refine ne hm ?_;rintro rfl;cases gi<;>simp at h
  |some l'=>obtain⟨m',e,HQ⟩:=hg2 _ rfl;simp only at e;subst e;simp only[List.any_eq_true,List.contains_iff_mem]at h⊢;obtain⟨j,hj,BG⟩:=h;obtain⟨k,hk,e1⟩:=hm j hj;obtain⟨k',rq,e2⟩:=HQ j BG;rw[e1]at e2;cases e2;exact⟨k,hk,rq⟩
theorem aeB{w:lq}{b:Array Nat}{fs ft:List dm}(hf:Ph w fs ft)(h:uA b ft=true):uA b fs=true:=by
 simp only[uA,aT,tg,List.getElem?_zipIdx,af,Prod.forall,ay]at h⊢;rintro f i ⟨i',f0,h1,rfl,rfl⟩ g j ⟨j',g0,h2,rfl,rfl⟩;obtain⟨f',k1,k2⟩:=EC hf h1;obtain⟨g',k3,k4⟩:=EC hf h2;have:=h f' (0+i') ⟨i',f',k1,rfl,rfl⟩ g' (0+j') ⟨j',g',k3,rfl,rfl⟩;simp only[gP,o7]at this⊢;refine this.imp (Or.imp (Or.imp id λhn=>?_) id) id;cases hm:f0.meets g0 with
 |false=>rfl
 |true=>rw[Xz k2 k4 hm]at hn;cases hn
def WD(P:Program)(ty:fP)(aI:bS)(call:bt)(yf:ew)(B:List Nat)(ops:Array Oper)(k:Nat)(te:List TV)(tS:List TB)(fs:List dm)(Q:List TV->List TB->Prop):Prop:=
 ∀ι w env S n0,bT ι te tS env S->oK B tS->Yw ι w->(∀j,k<=j->j<ops.size->S[n0+j]? =some .none)->
  ∃aK S' xD ι' w' bZ bN ft,tL P ty aI call yf ops n0 (ops.toList.drop k) k env S=some (aK,S',xD)/\Ph w' xD ft/\(∀j,(∀i,k<=i->i<ops.size->j≠n0+i)->w' j=w j)/\uA (Region.before ops) (fs++ft)=true/\
   bT ι' bZ bN aK S'/\oK B bN/\Fr B ι S ι' S'/\(S.length<=S'.length/\∀j,(∀i,k<=i->i<ops.size->j≠n0+i)->S[j]? =some .none->S'[j]? =some .none)/\Q bZ bN
variable {n0T:Nat} {fs:List dm}
theorem ad0{k:Nat}(hk:ops.size<=k){Q:List TV->List TB->Prop}(hm:uA (Region.before ops) fs=true)(h:Q te tS):WD P ty aI call yf B ops k te tS fs Q:=by intro ι w env S n0 hR hB hw hn;rw[j5 (by simpa using hk)];exact⟨env,S,[],ι,w,te,tS,[],rfl,trivial,λ_ _=>rfl,by simpa using hm,hR,hB,Fr.refl _ _ _,⟨aj _,λ_ _ h=>h⟩,h⟩
theorem tJ{k:Nat}(ho:ops[k]? =some o)(hw:eD ops te o=some true)(yG:Az tS (n0T+k)=true){Q:List TV->List TB->Prop}{K:TV->List TV->List TB->dm->Prop}(hd:Does P ty aI call yf B o (n0T+k) te tS true K)
  (h:∀v bZ bN ft,K v bZ bN ft->WD P ty aI call yf B ops (k+1) (ki bZ o.dst v) bN (fs++[ft]) Q):WD P ty aI call yf B ops k te tS fs Q:=by
 intro ι w env S n0 hR hB hwk hn;have hsz:k<ops.size:=(aL.1 ho).1;have Ra:=hn k (aj _) hsz;obtain⟨d,S',ι',w',v,bZ,bN,f,ft,h1,h2,h3,h4,h5,h6,h7,h8,h9,wO,HT,Yr⟩:=hd ι w env S (n0+k) hR hB hwk (aax yG) (.inl Ra) (λ_=>Ra);obtain⟨aK,xE,xD,ι'',Tg,ur,uu,fts,k1,k2,k3,k4,k5,k6,k7,k8,k9⟩:=h v bZ bN ft Yr ι' w' (kC env o.dst d) S' n0 (oP h5 h6 _) wO h7 (λj hj BG=>HT.2 _ (by omega) (hn j (by omega) BG));refine⟨aK,xE,f::xD,ι'',Tg,ur,uu,ft::fts,?_,⟨⟨h3.1,λl hl=>?_⟩,k2⟩,λj hj=>?_,?_,k5,k6,h9.trans k7,⟨bp HT.1 k8.1,λj hj dA=>?_⟩,k9⟩;.rw[oV ho];simp only[tL,iP hR.env hw,if_true,h2 rfl,k1]
 .obtain⟨m,e1,e2⟩:=h3.2 l hl;refine⟨m,e1,λj hj=>?_⟩;obtain⟨k',rq,e3⟩:=e2 j hj;refine⟨k',rq,?_⟩;rw[k3 j ?_];.exact e3
  intro i hi JO he;rcases h4 l m hl e1 j hj with rfl|⟨i',ahV⟩;.omega
  obtain⟨b,e4,e5⟩:=hR.live ahV;rw[he,hn i (by omega) JO]at e4;cases e4;exact e5 rfl
 .rw[k3 j λi hi JO=>hj i (by omega) JO,h8 rfl j (hj k (aj _) hsz)]
 .simpa using k4
 exact k8.2 j (λi hi JO=>hj i (by omega) JO) (HT.2 j (hj k (aj _) hsz) dA)
theorem ZN{k:Nat}(ho:ops[k]? =some o)(hw:eD ops te o=some false){Q:List TV->List TB->Prop}
  (h:WD P ty aI call yf B ops (k+1) (ki te o.dst Q0) tS (fs++[⟨some [],false⟩]) Q):WD P ty aI call yf B ops k te tS fs Q:=by
 intro ι w env S n0 hR hB hwk hn;have hsz:k<ops.size:=(aL.1 ho).1;obtain⟨aK,xE,xD,ι'',Tg,ur,uu,fts,k1,k2,k3,k4,k5,k6,k7,k8,k9⟩:=h ι w (kC env o.dst bE) S n0 (oP hR Na _) hB hwk (λj hj BG=>hn j (by omega) BG);refine⟨aK,xE,⟨some [],false⟩::xD,ι'',Tg,ur,uu,⟨some [],false⟩::fts,?_,⟨⟨id,λl hl=>⟨[],rfl,λj hj=>by cases hj⟩⟩,k2⟩,λj hj=>?_,?_,k5,k6,k7,⟨k8.1,λj hj dA=>?_⟩,k9⟩;.rw[oV ho];simp only[tL,iP hR.env hw,aG,if_false,k1]
 .exact k3 j λi hi JO=>hj i (by omega) JO
 .simpa using k4
 exact k8.2 j (λi hi JO=>hj i (by omega) JO) dA
def UE(o:Oper):Bool:=
 o.guard.isNone&&match o.op with
 |.alloc _|.box .. |.store .. |.makeMap .. |.mapUpdate .. =>true
 |.call {callee:=.builtin .append,.. }=>true
 |_=>false
theorem xW:∀{l:List Oper}{env:List DV},l.any UE=true->ry P ty aI call yf ops S l env=none
 |[],_,h=>by cases h
 |o::l,env,h=>by
  simp only[List.any_cons,gP]at h;simp only[ry];rcases h with h|h
  .simp only[UE,aA]at h;obtain⟨h1,h2⟩:=h;have hw:cI ops env o=true:=by unfold cI;rw[Option.isNone_iff_eq_none.1 h1]
   have hq:dH P ty aI call yf (jy env) o S=none:=by
    split at h2;.rename_i ho;simp only[dH,ho]
    .rename_i ho;simp only[dH,ho]
    .rename_i ho;simp only[dH,ho]
    .rename_i ho;simp only[dH,ho]
    .rename_i ho;simp only[dH,ho]
    .rename_i ho;simp only[dH,ho]
    cases h2
   simp only[hw,if_true,hq]
  split
  .split;.exact xW h
   rfl
  exact xW h
def wZ(P:Program)(ops:Array Oper):Bool:=ops.toList.any UE||ops.toList.any (I6 P)
theorem Ss{env:List DV}(h:wZ P ops=true):(if ops.toList.any (I6 P)then none else ry P ty aI call yf ops S ops.toList env)=none:=by
 split;.rfl
 rename_i hp;unfold wZ at h;rw[Bool.not_eq_true]at hp;rw[hp,Bool.or_false]at h;exact xW h
theorem ext_get{S:ai}{n k:Nat}(h:Lv S k):(S++List.replicate n .none)[k]? =S[k]? :=by obtain⟨b,h1,-⟩:=h;exact er (az.1 h1).1
theorem PG(h:bT ι te tS env S)(n m:Nat):bT ι te (tS++List.replicate n .none) env (S++List.replicate m .none):=by
 have hl:∀k k',ι k=some k'->(S++List.replicate m DB.none)[k']? =S[k']? :=λk k' hk=>ext_get (h.live hk);have K:jE ι S ι (S++List.replicate m .none) λ_=>False:=λk k' _ hk=>⟨hk,dY (hl k k' hk)⟩;have hT:∀(k:Nat)(b:TB),(tS++List.replicate n TB.none)[k]? =some b->b≠.none->tS[k]? =some b:=by
  intro k b hk hb;rw[qT]at hk;split at hk;.exact hk
  rw[qW]at hk;split at hk;.cases hk;exact(hb rfl).elim
  cases hk
 refine⟨bu K _ _ h.env,λk l hk=>?_,λk e s hk t ht=>?_,λk k' hk=>?_,h.inj,λk b hk t ht=>by
  rw[hl k t ht];cases b with
  |none=>trivial
  |_=>exact h.mp k _ (hT k _ hk (λe=>by cases e)) t ht⟩
 .obtain⟨k',ds,h1,h2,h3⟩:=h.cells k l (hT k _ hk (λe=>by cases e));exact⟨k',ds,h1,by rw[hl k k' h1];exact h2,bu K _ _ h3⟩
 .obtain⟨n',h1⟩:=h.own k e s (hT k _ hk (λe=>by cases e)) t ht;exact⟨n',by rw[hl k t ht];exact h1⟩
 obtain⟨b,h1,h2⟩:=h.qv k k' hk;exact⟨b,by rw[er (az.1 h1).1];exact h1,h2⟩
end Go.Tv
namespace Go.Tv
open Go Go.Di
def oD:List TB->List TB
 |[]=>[]
 |b::l=>match oD l,b with
  |[],.none=>[]
  |l',b=>b::l'
theorem IK:∀tS:List TB,∃n,tS=oD tS++List.replicate n .none
 |[]=>⟨0,rfl⟩
 |b::l=>by
  obtain⟨n,h⟩:=IK l;simp only[oD];split;.rename_i e;rw[e]at h;exact⟨n+1,by rw[h];rfl⟩
  exact⟨n,by rw[nM,<-h]⟩
inductive jW:List TV->List TV->Prop
 |nil:jW [] []
 |unk {v:TV} {l m:List TV}:jW l m->jW (.unk::l) (v::m)
 |same {v:TV} {l m:List TV}:jW l m->jW (v::l) (v::m)
 |no {t:TT} {x:List t.den} {ap:Ap} {l m:List TV}:jW l m->jW (.sl t x .no::l) (.sl t x ap::m)
 |stop {t:TT} {x:List t.den} {ap:Ap} {b:Bool} {l m:List TV}:jW l m->jW (.sl t x (.stop b)::l) (.sl t x ap::m)
 |kA {t:TT} {g:Nat} {l m:List TV}:jW l m->jW (.sl t [] (.kA g)::l) (.sl t [] .full::m)
 |au {t:TT} {ap:Ap} {l m:List TV}:jW l m->jW (.sl t [] ap::l) (.au::m)
 |agg {a b l m:List TV}:jW a b->jW l m->jW (.agg a::l) (.agg b::m)
theorem jW.refl:∀l:List TV,jW l l
 |[]=>.nil
 |_::l=>.same (jW.refl l)
mutual
def refs:TV->List Nat
 |.sl _ _ (.kA g)=>[g]
 |.sl _ _ (.Cz g)=>[g]
 |.ptr id _=>[id]
 |.mp id=>[id]
 |.so g _=>[g]
 |.sp g _ _ _=>[g]
 |.oq k _ te=>k::eH te
 |.agg l=>eH l
 |.tup l=>eH l
 |.fn _ a b=>eH a++eH b
 |_=>[]
def eH:List TV->List Nat
 |[]=>[]
 |a::l=>refs a++eH l
end
inductive CC:List TB->List TB->Prop
 |nil {l:List TB}:CC [] l
 |none {b:TB} {l m:List TB}:CC l m->CC (.none::l) (b::m)
 |own {e s:Nat} {l m:List TB}:CC l m->CC (.own e s::l) (.own e s::m)
 |new {e s:Nat} {l:List TB}:CC l []->CC (.own e s::l) []
 |cells {a b:List TV} {l m:List TB}:jW a b->CC l m->CC (.cells a::l) (.cells b::m)
 |map {kt:TT} {c:List kt.den} {l m:List TB}:CC l m->CC (.map kt c::l) (.map kt c::m)
 |rows {t:TT} {e:Nat} {c:List t.den} {z:Bool} {l m:List TB}:CC l m->CC (.rows t e c z::l) (.rows t e c z::m)
 |loop {l m:List TB}:CC l m->CC (.loop::l) (.loop::m)
def mb(tS:List TB)(k:Nat):Bool:=
 match tS[k]? with
 |some .none|none=>false
 |_=>true
def oF:List TB->List Nat
 |[]=>[]
 |.cells a::l=>eH a++oF l
 |_::l=>oF l
def okB(te:List TV)(tS:List TB):Bool:=(eH te++oF tS).all (mb tS)
variable {P:Program} {ty:fP} {tt:TypeId->Option TT} {ι ι' w:lq} {S S':ai} {te mM:List TV} {env:List DV} {tS iT:List TB} {aI:bS} {call:bt} {yf:ew} {o:Oper} {aD nT:Nat} {B:List Nat} {r:TR} {ops:Array Oper}
theorem Nv{l m:List TV}(h:jW l m):∀{ds:List DV},cQ ι S m ds->cQ ι S l ds:=by
 induction h with
 |nil=>exact id
 |unk _ ih=>intro ds hd;obtain⟨d,m',rfl,h1,h2⟩:=ak hd;exact aQ (by simp only[RT]) (ih h2)
 |same _ ih=>intro ds hd;obtain⟨d,m',rfl,h1,h2⟩:=ak hd;exact aQ h1 (ih h2)
 |no _ ih=>intro ds hd;obtain⟨d,m',rfl,h1,h2⟩:=ak hd;refine aQ ?_ (ih h2);cases d<;>simp only[RT]at h1⊢;exact⟨h1.1,trivial⟩
 |stop _ ih=>intro ds hd;obtain⟨d,m',rfl,h1,h2⟩:=ak hd;refine aQ ?_ (ih h2);cases d<;>simp only[RT]at h1⊢;exact⟨h1.1,trivial⟩
 |kA _ ih=>intro ds hd;obtain⟨d,m',rfl,h1,h2⟩:=ak hd;refine aQ ?_ (ih h2);cases d<;>simp only[RT]at h1⊢;exact⟨h1.1,.inl ⟨h1.2.1,h1.2.2,mI h1.1⟩⟩
 |au _ ih=>
  rename_i ap _ _ _;intro ds hd;obtain⟨d,m',rfl,h1,h2⟩:=ak hd;refine aQ ?_ (ih h2);cases d<;>simp only[RT]at h1⊢;obtain⟨rfl,rfl,rfl⟩:=h1;refine⟨trivial,?_⟩;cases ap with
  |no=>trivial
  |full=>exact⟨rfl,rfl⟩
  |kA g=>exact .inl ⟨rfl,rfl,rfl⟩
  |stop b=>trivial
  |Cz g=>exact .inl ⟨rfl,rfl,rfl⟩
 |agg _ _ QN SR=>intro ds hd;obtain⟨d,m',rfl,h1,h2⟩:=ak hd;refine aQ ?_ (SR h2);cases d<;>simp only[RT]at h1⊢;exact QN h1
mutual
theorem aaa:∀(v:TV)(d:DV),(∀k∈refs v,ι' k=ι k)->RT ι S v d->RT ι' S v d
 |.unk,_,_,_=>by simp only[RT]
 |.val _,d,_,k=>by cases d<;>simp only[RT]at k⊢;exact k
 |.au,d,_,k=>by cases d<;>simp only[RT]at k⊢;exact k
 |.agg l,d,h,k=>by cases d<;>simp only[RT]at k⊢;exact kR l _ h k
 |.tup l,d,h,k=>by cases d<;>simp only[RT]at k⊢;exact kR l _ h k
 |.sl t l .no,d,_,k=>by cases d<;>simp only[RT]at k⊢;exact k
 |.sl t l .full,d,_,k=>by cases d<;>simp only[RT]at k⊢;exact k
 |.sl t l (.stop _),d,_,k=>by cases d<;>simp only[RT]at k⊢;exact k
 |.sl t l (.Cz g),d,h,k=>by cases d<;>simp only[RT,pQ]at k⊢;rw[h g (by simp[refs])];exact k
 |.sl t l (.kA g),d,h,k=>by cases d<;>simp only[RT,pQ]at k⊢;rw[h g (by simp[refs])];exact k
 |.ptr id off,d,h,k=>by cases d<;>simp only[RT]at k⊢;rw[h id (by simp[refs])];exact k
 |.fF t l i off,d,_,k=>by cases d<;>simp only[RT]at k⊢;exact k
 |.mp id,d,h,k=>by cases d<;>simp only[RT]at k⊢;rw[h id (by simp[refs])];exact k
 |.so g t,d,h,k=>by cases d<;>simp only[RT]at k⊢;rw[h g (by simp[refs])];exact k
 |.oq k0 fn te,d,h,k=>by cases d<;>simp only[RT]at k⊢;obtain⟨k1,ps,a,b,env,BI,k4,k2,k3⟩:=k;exact⟨(h k0 (by simp[refs])).trans k1,ps,a,b,env,BI,k4,k2,kR te env (λj hj=>h j (by simp[refs,hj])) k3⟩
 |.sp g t i off,d,h,k=>by cases d<;>simp only[RT]at k⊢;rw[h g (by simp[refs])];exact k
 |.fn f a b,d,h,k=>by cases d<;>simp only[RT]at k⊢;exact⟨k.1,kR a _ (λj hj=>h j (by simp[refs,hj])) k.2.1,kR b _ (λj hj=>h j (by simp[refs,hj])) k.2.2⟩
theorem kR:∀(l:List TV)(m:List DV),(∀k∈eH l,ι' k=ι k)->cQ ι S l m->cQ ι' S l m
 |[],m,_,k=>by rw[aP k];exact bL
 |a::l,m,h,k=>by obtain⟨d,m',rfl,h1,h2⟩:=ak k;exact aQ (aaa a d (λj hj=>h j (by simp[eH,hj])) h1) (kR l m' (λj hj=>h j (by simp[eH,hj])) h2)
end
theorem C7{l m:List TB}(h:CC l m):∀{k:Nat}{b:TB},l[k]? =some b->b=.none\/(∃e s,b=.own e s/\(m[k]? =some (.own e s)\/m[k]? =none))\/(∃a c,b=.cells a/\m[k]? =some (.cells c)/\jW a c)\/(m[k]? =some b/\(∀l,b≠.cells l)/\∀e s,b≠.own e s):=by
 induction h with
 |nil=>intro k b hb;simp at hb
 |none _ ih=>
  intro k b hb;cases k with
  |zero=>simp only[cg,aB]at hb;exact .inl hb.symm
  |succ k=>simpa using ih (k:=k) (by simpa using hb)
 |own _ ih=>
  intro k b hb;cases k with
  |zero=>simp only[cg,aB]at hb;subst hb;exact .inr (.inl ⟨_,_,rfl,.inl rfl⟩)
  |succ k=>simpa using ih (k:=k) (by simpa using hb)
 |new _ ih=>
  intro k b hb;cases k with
  |zero=>simp only[cg,aB]at hb;subst hb;exact .inr (.inl ⟨_,_,rfl,.inr rfl⟩)
  |succ k=>simpa using ih (k:=k) (by simpa using hb)
 |cells hl _ ih=>
  intro k b hb;cases k with
  |zero=>simp only[cg,aB]at hb;subst hb;exact .inr (.inr (.inl ⟨_,_,rfl,rfl,hl⟩))
  |succ k=>simpa using ih (k:=k) (by simpa using hb)
 |map _ ih=>
  intro k b hb;cases k with
  |zero=>simp only[cg,aB]at hb;subst hb;exact .inr (.inr (.inr ⟨rfl,by simp,by simp⟩))
  |succ k=>simpa using ih (k:=k) (by simpa using hb)
 |rows _ ih=>
  intro k b hb;cases k with
  |zero=>simp only[cg,aB]at hb;subst hb;exact .inr (.inr (.inr ⟨rfl,by simp,by simp⟩))
  |succ k=>simpa using ih (k:=k) (by simpa using hb)
 |loop _ ih=>
  intro k b hb;cases k with
  |zero=>simp only[cg,aB]at hb;subst hb;exact .inr (.inr (.inr ⟨rfl,by simp,by simp⟩))
  |succ k=>simpa using ih (k:=k) (by simpa using hb)
theorem Bl{k:Nat}{a:List TV}:∀{tS:List TB}{j:Nat},tS[j]? =some (.cells a)->k∈eH a->k∈oF tS
 |[],_,h,_=>by simp at h
 |b::l,0,h,hk=>by simp only[cg,aB]at h;subst h;simp[oF,hk]
 |b::l,j+1,h,hk=>by have:=Bl (tS:=l) (j:=j) (by simpa using h) hk;cases b<;>simp[oF,this]
theorem zG(h:bT ι te tS env S)(hl:jW mM te)(hb:CC iT tS)(mO:okB mM iT=true)(hB:oK B iT):∃ι1,bT ι1 mM iT env S/\Fr B ι S ι1 S/\(∀k,ι1 k=if mb iT k then ι k else none):=by
 simp only[okB,o6,aA,aT]at mO;refine⟨λk=>if mb iT k then ι k else none,⟨?_,λk l hk=>?_,λk e s hk t ht=>?_,λk k' hk=>?_,λi j k' hi hj=>?_,λk b hk t ht=>?_⟩,⟨λ_ _ _=>rfl,λk k' hk=>?_,λk hk=>?_⟩,λ_=>rfl⟩;.refine kR _ _ (λk hk=>?_) (Nv hl h.env);rw[if_pos (mO.1 k hk)]
 .rcases C7 hb hk with e|⟨_,_,e,-⟩|⟨a,c,e,h1,h2⟩|⟨_,e,-⟩;.cases e
  .cases e
  rotate_left
  .exact absurd rfl (e _)
  cases e;obtain⟨k',ds,n1,n2,n3⟩:=h.cells k c h1;refine⟨k',ds,?_,n2,kR _ _ (λj hj=>?_) (Nv h2 n3)⟩
  .have:mb iT k=true:=by simp only[mb,hk]
   rw[if_pos this];exact n1
  rw[if_pos (mO.2 j (Bl hk hj))]
 .split at ht
  .rcases C7 hb hk with e'|⟨_,_,e',h1⟩|⟨a,c,e',h1,h2⟩|⟨_,-,e'⟩
   rotate_left 3
   .exact absurd rfl (e' _ _)
   .cases e'
   .cases e';rcases h1 with h1|h1;.exact h.own k e s h1 t ht
    obtain⟨b,h2,-⟩:=h.qv k t ht;rw[h1]at h2;cases h2
   cases e'
  cases ht
 .split at hk
  .rename_i kP;unfold mb at kP;split at kP;.cases kP
   .cases kP
   rename_i b TA MJ;cases hx:iT[k]? with
   |none=>exact(MJ hx).elim
   |some b=>exact⟨b,rfl,λe=>TA (by rw[hx,e])⟩
  cases hk
 .split at hi
  .split at hj;.exact h.inj i j k' hi hj
   cases hj
  cases hi
 .split at ht
  .rcases C7 hb hk with e'|⟨_,_,e',-⟩|⟨_,_,e',-⟩|⟨h1,-⟩;.subst e';trivial
   .subst e';trivial
   .subst e';trivial
   exact h.mp k _ h1 t ht
  cases ht
 .split at hk;.exact .inl ⟨k,hk⟩
  cases hk
 obtain⟨l,h1⟩:=hB k hk;have:mb iT k=true:=by cases l<;>(simp only[lC]at h1;simp only[mb,h1])
 simp only[this,if_true]
theorem zW(hb:CC iT tS)(hB:oK B tS)(h:∀k,k∈B->mb iT k=true):oK B iT:=by
 intro k hk;have h1:=h k hk;obtain⟨l,h2⟩:=hB k hk;unfold mb at h1;split at h1;.cases h1
 .cases h1
 rename_i b TA MJ;cases hx:iT[k]? with
 |none=>exact(MJ hx).elim
 |some b=>
  rcases C7 hb hx with e|⟨_,_,e,h3⟩|⟨a,c,e,-,-⟩|⟨h3,e,-⟩;.exact(TA (by rw[hx,e])).elim
  .rw[h2]at h3;rcases h3 with h3|h3<;>(cases l<;>cases h3)
  .exact⟨some a,by rw[e];rfl⟩
  rw[h2]at h3;cases h3;exact⟨l,rfl⟩
theorem K7(h:bT ι te tS env S):bT ι te (oD tS) env S:=by
 obtain⟨n,hn⟩:=IK tS;have hT:∀(k:Nat)(b:TB),b≠.none->(tS[k]? =some b↔(oD tS)[k]? =some b):=by
  intro k b hb
  conv=>lhs;rw[hn]
  rw[qT];split;.rfl
  rename_i hlt;rw[fu (l:=oD tS) (by omega),qW];split;.exact⟨λe=>by cases e;exact(hb rfl).elim,λe=>by cases e⟩
  exact Iff.rfl
 refine⟨h.env,λk l hk=>h.cells k l ((hT _ _ (λe=>by cases e)).2 hk),λk e s hk=>h.own k e s ((hT _ _ (λe=>by cases e)).2 hk),λk k' hk=>?_,h.inj,λk b hk t ht=>by
  cases b with
  |none=>trivial
  |_=>exact h.mp k _ ((hT _ _ (λe=>by cases e)).2 hk) t ht⟩
 obtain⟨b,h1,h2⟩:=h.qv k k' hk;exact⟨b,(hT _ _ h2).1 h1,h2⟩
theorem LU(hB:oK B tS):oK B (oD tS):=by
 intro k hk;obtain⟨l,h1⟩:=hB k hk;obtain⟨n,hn⟩:=IK tS;refine⟨l,?_⟩;rw[hn,qT]at h1;split at h1;.exact h1
 rw[qW]at h1;split at h1;.cases l<;>cases h1
 cases h1
section
variable (P:Program) (ty:fP) (aI:bS) (call:bt) (yf:ew) (B:List Nat) (L:Nat) (fn:FuncId) (jj:Bool)
def WT(c:Code)(te:List TV)(tS:List TB)(Q:DX->List TV->List TB->Prop):Prop:=
 ∀ι env S,bT ι te tS env S->oK B tS->∃e aK S' ι' bZ bN,cW P ty aI call yf L fn jj c env S=some (e,aK,S')/\bT ι' bZ bN aK S'/\oK B bN/\Fr B ι S ι' S'/\Nn S.length S S'/\Q e bZ bN
end
section
variable {L:Nat} {fn:FuncId} {jj:Bool} {a b c:Code} {Q Q':DX->List TV->List TB->Prop}
theorem WT.mono (h:WT P ty aI call yf B L fn jj c te tS Q)(hq:∀e te tS,Q e te tS->Q' e te tS):WT P ty aI call yf B L fn jj c te tS Q':=by intro ι env S hR hB;obtain⟨e,aK,S',ι',bZ,bN,h1,h2,h3,h4,h5,h6⟩:=h ι env S hR hB;exact⟨e,aK,S',ι',bZ,bN,h1,h2,h3,h4,h5,hq _ _ _ h6⟩
theorem ZB(h:Q .normal te tS):WT P ty aI call yf B L fn jj .skip te tS Q:=λι env S hR hB=>⟨.normal,env,S,ι,te,tS,rfl,hR,hB,Fr.refl _ _ _,gM _ _,h⟩
theorem V7{l:Nat}(h:Q .normal te tS):WT P ty aI call yf B L fn jj (.label l) te tS Q:=λι env S hR hB=>⟨.normal,env,S,ι,te,tS,rfl,hR,hB,Fr.refl _ _ _,gM _ _,h⟩
theorem ZE{id:Nat}(h:Q (.exit id) te tS):WT P ty aI call yf B L fn jj (.exit id) te tS Q:=λι env S hR hB=>⟨.exit id,env,S,ι,te,tS,rfl,hR,hB,Fr.refl _ _ _,gM _ _,h⟩
theorem adS(h:Q .ret te tS):WT P ty aI call yf B L fn jj .ret te tS Q:=λι env S hR hB=>⟨.ret,env,S,ι,te,tS,rfl,hR,hB,Fr.refl _ _ _,gM _ _,h⟩
theorem V2(h:WT P ty aI call yf B L fn jj c te tS Q):WT P ty aI call yf B L fn jj (.scope c) te tS Q:=λι env S hR hB=>by obtain⟨e,aK,S',ι',bZ,bN,h1,h2⟩:=h ι env S hR hB;exact⟨e,aK,S',ι',bZ,bN,by simp only[cW,h1],h2⟩
theorem Va(h:WT P ty aI call yf B L fn jj a te tS λe te tS=>match e with|.normal=>WT P ty aI call yf B L fn jj b te tS Q|e=>Q e te tS):WT P ty aI call yf B L fn jj (.seq a b) te tS Q:=by
 intro ι env S hR hB;obtain⟨e,aK,S',ι',bZ,bN,h1,h2,h3,h4,h5,h6⟩:=h ι env S hR hB;cases e with
 |normal=>obtain⟨e,rU,xE,ι'',ur,uu,k1,k2,k3,k4,k5,k6⟩:=h6 ι' aK S' h2 h3;exact⟨e,rU,xE,ι'',ur,uu,by simp only[cW,h1,k1],k2,k3,h4.trans k4,uZ h5 k5,k6⟩
 |exit id=>exact⟨_,aK,S',ι',bZ,bN,by simp only[cW,h1],h2,h3,h4,h5,h6⟩
 |ret=>exact⟨_,aK,S',ι',bZ,bN,by simp only[cW,h1],h2,h3,h4,h5,h6⟩
theorem ZF{x:Operand}{t:Bool}(hx:fM te x=some (.val (.bool t)))(h1:t=true->WT P ty aI call yf B L fn jj a te tS Q)(h2:t=false->WT P ty aI call yf B L fn jj b te tS Q):WT P ty aI call yf B L fn jj (.cond x a b) te tS Q:=by
 intro ι env S hR hB;obtain⟨d,k1,k2⟩:=bD hR.env hx;cases d<;>simp only[RT]at k2;subst k2;cases t with
 |true=>obtain⟨e,aK,S',ι',bZ,bN,m1,m2⟩:=h1 rfl ι env S hR hB;exact⟨e,aK,S',ι',bZ,bN,by simp only[cW,k1,m1],m2⟩
 |false=>obtain⟨e,aK,S',ι',bZ,bN,m1,m2⟩:=h2 rfl ι env S hR hB;exact⟨e,aK,S',ι',bZ,bN,by simp only[cW,k1,m1],m2⟩
theorem V9{id:Nat}(h:WT P ty aI call yf B L fn jj c te tS λe te tS=>match e with|.exit jd=>Q (if jd=id then .normal else .exit jd) te tS|e=>Q e te tS):WT P ty aI call yf B L fn jj (.block id c) te tS Q:=by
 intro ι env S hR hB;obtain⟨e,aK,S',ι',bZ,bN,h1,h2,h3,h4,h5,h6⟩:=h ι env S hR hB;cases e with
 |normal=>exact⟨_,aK,S',ι',bZ,bN,by simp only[cW,h1],h2,h3,h4,h5,h6⟩
 |exit jd=>exact⟨_,aK,S',ι',bZ,bN,by simp only[cW,h1],h2,h3,h4,h5,h6⟩
 |ret=>exact⟨_,aK,S',ι',bZ,bN,by simp only[cW,h1],h2,h3,h4,h5,h6⟩
theorem ZC(hl:jW mM te)(hb:CC iT tS)(mO:okB mM iT=true)(hB:∀k,k∈B->mb iT k=true)(h:WT P ty aI call yf B L fn jj c mM iT Q):WT P ty aI call yf B L fn jj c te tS Q:=by intro ι env S hR QX;have Yq:=zW hb QX hB;obtain⟨ι1,h1,h2,-⟩:=zG hR hl hb mO Yq;obtain⟨e,aK,S',ι',bZ,bN,m1,m2,m3,m4,m5⟩:=h ι1 env S h1 Yq;exact⟨e,aK,S',ι',bZ,bN,m1,m2,m3,h2.trans m4,m5⟩
structure Fits (B:List Nat) (mM:List TV) (iT:List TB) (te:List TV) (tS:List TB):Prop where
 l:jW mM te
 b:CC iT tS
 ok:okB mM iT=true
 base:∀k,k∈B->mb iT k=true
theorem V6{id:Nat}(h:WL P ty aI call yf B ops 0 te tS λte tS=>Q .normal te (oD tS)):WT P ty aI call yf B L fn jj (.region id ops false) te tS Q:=by intro ι env S hR hB;obtain⟨aK,S',ι',bZ,bN,h1,h2,h3,h4,h5,h6⟩:=h ι env S hR hB;refine⟨.normal,aK,S',ι',bZ,oD bN,?_,K7 h2,LU h3,h4,h5,h6⟩;rw[nL]at h1;simp only[cW,qJ,aG,if_false,h1,av]
theorem V4{id:Nat}(hd:mm ops (Region.before ops)=true)(hl:wZ P ops=false)(h:WQ P ty aI call yf ops tS 0 te λte=>Q .normal te tS):WT P ty aI call yf B L fn jj (.region id ops true) te tS Q:=by intro ι env S hR hB;obtain⟨aK,bZ,h1,h2,h3⟩:=h ι env S hR;refine⟨.normal,aK,S,ι,bZ,tS,?_,h2,hB,Fr.refl _ _ _,gM _ _,h3⟩;rw[nL]at h1;simp only[wZ,Bool.or_eq_false_iff]at hl;simp only[cW,qJ,if_true,hd,hl.2,gr,aG,if_false,h1,av]
theorem V8{id:Nat}(hd:mm ops (Region.before ops)=true)(hn:wZ P ops=true)(h:WD P ty aI call yf B ops 0 te (tS++List.replicate ops.size .none) [] λte tS=>Q .normal te (oD tS)):WT P ty aI call yf B L fn jj (.region id ops true) te tS Q:=by
 intro ι env S hR hB;have mS:=PG hR ops.size ops.size;obtain⟨w,hw⟩:=M7 mS;have hB':oK B (tS++List.replicate ops.size .none):=λk hk=>by obtain⟨l,h1⟩:=hB k hk;exact⟨l,by rw[er (az.1 h1).1];exact h1⟩
 obtain⟨aK,S',xD,ι',w',bZ,bN,ft,h1,h2,-,h4,h5,h6,h7,h8,h9⟩:=h ι w env (S++List.replicate ops.size .none) S.length mS hB' hw (λj _ hj=>by rw[iu (by omega),qW,if_pos (by omega)]);refine⟨.normal,aK,S',ι',bZ,oD bN,?_,K7 h5,LU h6,⟨λk' hl hno=>?_,λk k' hk=>?_,h7.base⟩,⟨?_,λj hj dA=>?_⟩,h9⟩;.rw[nL]at h1;simp only[cW,qJ,if_true,hd,gr,aG,if_false,Ss hn,h1,aeB h2 (by simpa using h4),av]
 .have e:=ext_get (n:=ops.size) hl;rw[h7.rest k' (by obtain⟨b,e1,e2⟩:=hl;exact⟨b,e.trans e1,e2⟩) hno];exact e
 .refine(h7.ours k k' hk).imp (λe=>e) λSX hl=>SX ?_;obtain⟨b,e1,e2⟩:=hl;exact⟨b,(ext_get ⟨b,e1,e2⟩).trans e1,e2⟩
 .have:=h8.1;rw[cD]at this;omega
 have hlt:=(az.1 dA).1;exact h8.2 j (λi _ _=>by omega) (by rw[er hlt];exact dA)
end
end Go.Tv
