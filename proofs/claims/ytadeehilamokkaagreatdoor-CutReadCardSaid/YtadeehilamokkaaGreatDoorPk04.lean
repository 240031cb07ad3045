import Derived.Test.YtadeehilamokkaaGreatDoorPk03
namespace Go.Tv
open Go Go.Di
variable {P:Program} {ty:fo} {tt:TypeId->cy} {ι ι' w:kB} {S S':aj} {te:cn} {env:cj} {tS:cp} {aD:bR} {call:aY} {yf:di} {o:Oper} {aB nT:Nat} {B:cx} {r:TR} {ops:Array Oper}
def WQ(P:Program)(ty:fo)(aD:bR)(call:aY)(yf:di)(ops:Array Oper)(tS:cp)(k:Nat)(te:cn)(Q:cn->Prop):Prop:=
 ∀ι env S,bL ι te tS env S->∃aK bO,qd P ty aD call yf ops S (ops.toList.drop k) env=some aK/\bL ι bO tS aK S/\Q bO
theorem U3{k:Nat}(hk:ops.size<=k){Q:cn->Prop}(h:Q te):WQ P ty aD call yf ops tS k te Q:=by intro ι env S hR;rw[jy (by simpa using hk)];exact⟨env,te,rfl,hR,h⟩
theorem Zx{k:Nat}(ho:ops[k]? =some o)(hw:dI ops te o=some false){Q:cn->Prop}(h:WQ P ty aD call yf ops tS (k+1) (jI te o.dst Qx) Q):WQ P ty aD call yf ops tS k te Q:=by intro ι env S hR;obtain⟨aK,bO,k1,k2,k3⟩:=h ι (jN env o.dst bD) S (nO hR MC _);refine⟨aK,bO,?_,k2,k3⟩;rw[nS ho];simp only[qd,gW hR.env hw,aJ,if_false,k1]
theorem Nx{ρ:Operand->Option DV}{d:DV}(hp:∃q,bJ P ty tt te tS o=some q)(h:ah P ty aD call yf ρ o S S.length=some (d,S)):cV P ty aD call yf ρ o S=some d:=by
 obtain⟨q,hp⟩:=hp;cases ho:o.op with
 |alloc e=>simp only[bJ,ho]at hp;cases hp
 |box t x=>simp only[bJ,ho]at hp;cases hp
 |store t a x=>simp only[bJ,ho]at hp;cases hp
 |makeMap t x=>simp only[bJ,ho]at hp;cases hp
 |makeSlice t x y=>simp only[bJ,ho]at hp;cases hp
 |buildSlice t n ps=>
  have hh:ty.h o≠1:=by
   simp only[bJ,ho]at hp;intro e;split at hp
   grind
   cases hp
  simp only[cV,ho,h,az]
 |mapUpdate t m k b=>simp only[bJ,ho]at hp;cases hp
 |call cl=>
  obtain⟨callee,args,argTypes⟩:=cl;cases callee with
  |builtin b=>
   cases b with
   |append=>simp only[bJ,ho]at hp;cases hp
   |_=>simp only[cV,ho,h,az]
  |value f=>simp only[bJ,ho]at hp;cases hp
  |_=>simp only[cV,ho,h,az]
 |_=>simp only[cV,ho,h,az]
theorem H9{k:Nat}{v:TV}{c:Prop}(ho:ops[k]? =some o)(hw:dI ops te o=some true)(hp:bJ P ty tt te tS o=some (v,c))(hc:c){Q:cn->Prop}(h:WQ P ty aD call yf ops tS (k+1) (jI te o.dst v) Q):WQ P ty aD call yf ops tS k te Q:=by intro ι env S hR;obtain⟨d,h1,h2⟩:=Kr (aD:=aD) (call:=call) (yf:=yf) (aB:=S.length) hR.env hR.cells hp hc;obtain⟨aK,bO,k1,k2,k3⟩:=h ι (jN env o.dst d) S (nO hR h2 _);refine⟨aK,bO,?_,k2,k3⟩;rw[nS ho];simp only[qd,gW hR.env hw,if_true,Nx ⟨_,hp⟩ h1,k1]
def OR(w:kB):cX->cX->Prop
 |[],[]=>True
 |f::l,g::m=>JW w f g/\OR w l m
 |_,_=>False
theorem D6{w:kB}:∀{l m:cX}{i:Nat}{f:cM},OR w l m->l[i]? =some f->∃g,m[i]? =some g/\JW w f g
 |[],_,_,_,_,h=>by simp at h
 |_::_,[],_,_,h,_=>h.elim
 |f::l,g::m,0,f',h,hx=>by simp only[dB,aF]at hx;subst hx;exact⟨g,rfl,h.1⟩
 |f::l,g::m,i+1,f',h,hx=>by obtain⟨g',h1,h2⟩:=D6 (i:=i) h.2 (by simpa using hx);exact⟨g',by simpa using h1,h2⟩
theorem Xi{w:kB}{f g f' g':cM}(hf:JW w f f')(hg:JW w g g')(h:f.meets g=true):f'.meets g'=true:=by
 obtain⟨fi,fw⟩:=f;obtain⟨gi,gw⟩:=g;obtain⟨fi',fw'⟩:=f';obtain⟨gi',gw'⟩:=g';obtain⟨TJ,YE⟩:=hf;obtain⟨X6,hg2⟩:=hg;simp only[cM.meets,aC,jw]at h⊢;refine⟨h.1.imp TJ X6,?_⟩;have h:=h.2;have ne:∀{m l:cx},(∀j∈m,∃k∈l,w j=some k)->m≠[]->(!l.isEmpty)=true:=by
  intro m l hml hm;cases m with
  |nil=>exact(hm rfl).elim
  |cons j m=>
   obtain⟨k,hk,-⟩:=hml j ab;cases l with
   |nil=>cases hk
   |cons _ _=>rfl
 cases fi' with
 |none=>
  cases gi' with
  |none=>rfl
  |some l'=>obtain⟨m,e,hm⟩:=hg2 _ rfl;simp only at e;subst e;refine ne hm ?_;rintro rfl;cases fi<;>simp at h
 |some l=>
  obtain⟨m,e,hm⟩:=YE _ rfl;simp only at e;subst e;cases gi' with
  |none=>refine ne hm ?_;rintro rfl;cases gi<;>simp at h
  |some l'=>grind
theorem adH{w:kB}{b:Array Nat}{fs ft:cX}(hf:OR w fs ft)(h:tc b ft=true):tc b fs=true:=by
 simp only[tc,aR,rQ,List.getElem?_zipIdx,af,Prod.forall,ay]at h⊢;rintro f i ⟨i',f0,h1,rfl,rfl⟩ g j ⟨j',g0,h2,rfl,rfl⟩;obtain⟨f',k1,k2⟩:=D6 hf h1;obtain⟨g',k3,k4⟩:=D6 hf h2;have:=h f' (0+i') ⟨i',f',k1,rfl,rfl⟩ g' (0+j') ⟨j',g',k3,rfl,rfl⟩;simp only[jw,nY]at this⊢;refine this.imp (Or.imp (Or.imp id λhn=>?_) id) id;cases hm:f0.meets g0 with
 |false=>rfl
 |true=>rw[Xi k2 k4 hm]at hn;cases hn
def WD(P:Program)(ty:fo)(aD:bR)(call:aY)(yf:di)(B:cx)(ops:Array Oper)(k:Nat)(te:cn)(tS:cp)(fs:cX)(Q:cn->cp->Prop):Prop:=
 ∀ι w env S n0,bL ι te tS env S->nM B tS->Yd ι w->(∀j,k<=j->j<ops.size->S[n0+j]? =some .none)->
  ∃aK S' wm ι' w' bO bI ft,sG P ty aD call yf ops n0 (ops.toList.drop k) k env S=some (aK,S',wm)/\OR w' wm ft/\(∀j,(∀i,k<=i->i<ops.size->j≠n0+i)->w' j=w j)/\tc (Region.before ops) (fs++ft)=true/\
   bL ι' bO bI aK S'/\nM B bI/\Fr B ι S ι' S'/\(S.length<=S'.length/\∀j,(∀i,k<=i->i<ops.size->j≠n0+i)->S[j]? =some .none->S'[j]? =some .none)/\Q bO bI
variable {n0T:Nat} {fs:cX}
theorem ac9{k:Nat}(hk:ops.size<=k){Q:cn->cp->Prop}(hm:tc (Region.before ops) fs=true)(h:Q te tS):WD P ty aD call yf B ops k te tS fs Q:=by intro ι w env S n0 hR hB hw hn;rw[jy (by simpa using hk)];exact⟨env,S,[],ι,w,te,tS,[],rfl,trivial,λ_ _=>rfl,by simpa using hm,hR,hB,Fr.refl _ _ _,⟨ai _,λ_ _ h=>h⟩,h⟩
theorem sE{k:Nat}(ho:ops[k]? =some o)(hw:dI ops te o=some true)(xF:zA tS (n0T+k)=true){Q:cn->cp->Prop}{K:TV->cn->cp->cM->Prop}(hd:Does P ty aD call yf B o (n0T+k) te tS true K)
  (h:∀v bO bI ft,K v bO bI ft->WD P ty aD call yf B ops (k+1) (jI bO o.dst v) bI (fs++[ft]) Q):WD P ty aD call yf B ops k te tS fs Q:=by
 intro ι w env S n0 hR hB hwk hn;have hsz:k<ops.size:=(aG.1 ho).1;have QG:=hn k (ai _) hsz;obtain⟨d,S',ι',w',v,bO,bI,f,ft,h1,h2,h3,h4,h5,h6,h7,h8,h9,vE,FJ,TQ⟩:=hd ι w env S (n0+k) hR hB hwk (aai xF) (.inl QG) (λ_=>QG);obtain⟨aK,wq,wm,ι'',Tl,s5,s6,fts,k1,k2,k3,k4,k5,k6,k7,k8,k9⟩:=h v bO bI ft TQ ι' w' (jN env o.dst d) S' n0 (nO h5 h6 _) vE h7 (λj hj Jd=>FJ.2 _ U (hn j U Jd));refine⟨aK,wq,f::wm,ι'',Tl,s5,s6,ft::fts,?_,⟨⟨h3.1,λl hl=>?_⟩,k2⟩,λj hj=>?_,?_,k5,k6,h9.trans k7,⟨bz FJ.1 k8.1,λj hj dN=>?_⟩,k9⟩;rw[nS ho];simp only[sG,gW hR.env hw,if_true,h2 rfl,k1];obtain⟨m,e1,e2⟩:=h3.2 l hl;refine⟨m,e1,λj hj=>?_⟩;obtain⟨k',ox,e3⟩:=e2 j hj;refine⟨k',ox,?_⟩;rw[k3 j ?_];exact e3;intro i hi X5 he;rcases h4 l m hl e1 j hj with rfl|⟨i',ahC⟩;omega;obtain⟨b,e4,e5⟩:=hR.live ahC;rw[he,hn i U X5]at e4;cases e4;exact e5 rfl
 grind
 grind
 exact k8.2 j (λi hi X5=>hj i U X5) (FJ.2 j (hj k (ai _) hsz) dN)
theorem ZE{k:Nat}(ho:ops[k]? =some o)(hw:dI ops te o=some false){Q:cn->cp->Prop}
  (h:WD P ty aD call yf B ops (k+1) (jI te o.dst Qx) tS (fs++[⟨some [],false⟩]) Q):WD P ty aD call yf B ops k te tS fs Q:=by
 intro ι w env S n0 hR hB hwk hn;have hsz:k<ops.size:=(aG.1 ho).1;obtain⟨aK,wq,wm,ι'',Tl,s5,s6,fts,k1,k2,k3,k4,k5,k6,k7,k8,k9⟩:=h ι w (jN env o.dst bD) S n0 (nO hR MC _) hB hwk (λj hj Jd=>hn j U Jd);refine⟨aK,wq,⟨some [],false⟩::wm,ι'',Tl,s5,s6,⟨some [],false⟩::fts,?_,⟨⟨id,λl hl=>⟨[],rfl,λj hj=>by cases hj⟩⟩,k2⟩,λj hj=>?_,?_,k5,k6,k7,⟨k8.1,λj hj dN=>?_⟩,k9⟩;rw[nS ho];simp only[sG,gW hR.env hw,aJ,if_false,k1]
 grind
 grind
 grind
def Uz(o:Oper):Bool:=
 o.guard.isNone&&match o.op with
 |.alloc _|.box .. |.store .. |.makeMap .. |.mapUpdate .. =>true
 |.call {callee:=.builtin .append,.. }=>true
 |_=>false
theorem wP:∀{l:List Oper}{env:cj},l.any Uz=true->qd P ty aD call yf ops S l env=none
 |[],_,h=>ao
 |o::l,env,h=>by
  simp only[List.any_cons,jw]at h;simp only[qd];rcases h with h|h;simp only[Uz,aC]at h;obtain⟨h1,h2⟩:=h;have hw:b9 ops env o=true:=by unfold b9;rw[Option.isNone_iff_eq_none.1 h1]
  have hq:cV P ty aD call yf (iN env) o S=none:=by
   split at h2;rename_i ho;simp only[cV,ho]
   rename_i ho;simp only[cV,ho]
   rename_i ho;simp only[cV,ho]
   rename_i ho;simp only[cV,ho]
   rename_i ho;simp only[cV,ho]
   rename_i ho;simp only[cV,ho]
   cases h2
  simp only[hw,if_true,hq];split;split;exact wP h;rfl;exact wP h
def vK(P:Program)(ops:Array Oper):Bool:=ops.toList.any Uz||ops.toList.any (Iq P)
theorem Si{env:cj}(h:vK P ops=true):(if ops.toList.any (Iq P)then none else qd P ty aD call yf ops S ops.toList env)=none:=by split;rfl;rename_i hp;unfold vK at h;rw[Bool.not_eq_true]at hp;rw[hp,Bool.or_false]at h;exact wP h
theorem ext_get{S:aj}{n k:Nat}(h:Lv S k):(S++List.replicate n .none)[k]? =S[k]? :=by obtain⟨b,h1,-⟩:=h;exact eC (aI.1 h1).1
theorem Pb(h:bL ι te tS env S)(n m:Nat):bL ι te (tS++List.replicate n .none) env (S++List.replicate m .none):=by
 have hl:∀k k',ι k=some k'->(S++List.replicate m DB.none)[k']? =S[k']? :=λk k' hk=>ext_get (h.live hk);have K:iQ ι S ι (S++List.replicate m .none) λ_=>False:=λk k' _ hk=>⟨hk,dm (hl k k' hk)⟩;have hT:∀(k:Nat)(b:TB),(tS++List.replicate n TB.none)[k]? =some b->b≠.none->tS[k]? =some b:=by grind
 refine⟨bh K _ _ h.env,λk l hk=>?_,λk e s hk t ht=>?_,λk k' hk=>?_,h.inj,λk b hk t ht=>by
  rw[hl k t ht];cases b with
  |none=>trivial
  |_=>exact h.mp k _ (hT k _ hk (λe=>ar)) t ht⟩
 obtain⟨k',ds,h1,h2,h3⟩:=h.cells k l (hT k _ hk (λe=>ar));exact⟨k',ds,h1,by rw[hl k k' h1];exact h2,bh K _ _ h3⟩;obtain⟨n',h1⟩:=h.own k e s (hT k _ hk (λe=>ar)) t ht;exact⟨n',by rw[hl k t ht];exact h1⟩;obtain⟨b,h1,h2⟩:=h.qc k k' hk;exact⟨b,by rw[eC (aI.1 h1).1];exact h1,h2⟩
end Go.Tv
namespace Go.Tv
open Go Go.Di
def oD:cp->cp
 |[]=>[]
 |b::l=>match oD l,b with
  |[],.none=>[]
  |l',b=>b::l'
theorem Ia:∀tS:cp,∃n,tS=oD tS++List.replicate n .none
 |[]=>⟨0,rfl⟩
 |b::l=>by
  obtain⟨n,h⟩:=Ia l;simp only[oD];split;rename_i e;rw[e]at h;exact⟨n+1,by rw[h];rfl⟩
  grind
inductive uD:cn->cn->Prop
 |nil:uD [] []
 |unk {v:TV} {l m:cn}:uD l m->uD (.unk::l) (v::m)
 |same {v:TV} {l m:cn}:uD l m->uD (v::l) (v::m)
 |no {t:TT} {x:List t.den} {ap:Ap} {l m:cn}:uD l m->uD (.sl t x .no::l) (.sl t x ap::m)
 |stop {t:TT} {x:List t.den} {ap:Ap} {b:Bool} {l m:cn}:uD l m->uD (.sl t x (.stop b)::l) (.sl t x ap::m)
 |o5 {t:TT} {g:Nat} {l m:cn}:uD l m->uD (.sl t [] (.o5 g)::l) (.sl t [] .full::m)
 |jo {t:TT} {ap:Ap} {l m:cn}:uD l m->uD (.sl t [] ap::l) (.jo::m)
 |agg {a b l m:cn}:uD a b->uD l m->uD (.agg a::l) (.agg b::m)
theorem uD.refl:∀l:cn,uD l l
 |[]=>.nil
 |_::l=>.same (uD.refl l)
mutual
def refs:TV->cx
 |.sl _ _ (.o5 g)=>[g]
 |.sl _ _ (.BM g)=>[g]
 |.ptr id _=>[id]
 |.mp id=>[id]
 |.so g _=>[g]
 |.sp g _ _ _=>[g]
 |.nj k _ te=>k::eL te
 |.agg l=>eL l
 |.tup l=>eL l
 |.fn _ a b=>eL a++eL b
 |_=>[]
def eL:cn->cx
 |[]=>[]
 |a::l=>refs a++eL l
end
inductive BR:cp->cp->Prop
 |nil {l:cp}:BR [] l
 |none {b:TB} {l m:cp}:BR l m->BR (.none::l) (b::m)
 |own {e s:Nat} {l m:cp}:BR l m->BR (.own e s::l) (.own e s::m)
 |new {e s:Nat} {l:cp}:BR l []->BR (.own e s::l) []
 |cells {a b:cn} {l m:cp}:uD a b->BR l m->BR (.cells a::l) (.cells b::m)
 |map {kt:TT} {c:List kt.den} {l m:cp}:BR l m->BR (.map kt c::l) (.map kt c::m)
 |rows {t:TT} {e:Nat} {c:List t.den} {z:Bool} {l m:cp}:BR l m->BR (.rows t e c z::l) (.rows t e c z::m)
 |loop {l m:cp}:BR l m->BR (.loop::l) (.loop::m)
def kU(tS:cp)(k:Nat):Bool:=
 match tS[k]? with
 |some .none|none=>false
 |_=>true
def nE:cp->cx
 |[]=>[]
 |.cells a::l=>eL a++nE l
 |_::l=>nE l
def okB(te:cn)(tS:cp):Bool:=(eL te++nE tS).all (kU tS)
variable {P:Program} {ty:fo} {tt:TypeId->cy} {ι ι' w:kB} {S S':aj} {te lG:cn} {env:cj} {tS gZ:cp} {aD:bR} {call:aY} {yf:di} {o:Oper} {aB nT:Nat} {B:cx} {r:TR} {ops:Array Oper}
theorem MQ{l m:cn}(h:uD l m):∀{ds:cj},cz ι S m ds->cz ι S l ds:=by
 induction h with
 |nil=>exact id
 |unk _ ih=>intro ds hd;obtain⟨d,m',rfl,h1,h2⟩:=ax hd;exact aO (by simp only[RT]) (ih h2)
 |same _ ih=>intro ds hd;obtain⟨d,m',rfl,h1,h2⟩:=ax hd;exact aO h1 (ih h2)
 |no _ ih=>intro ds hd;obtain⟨d,m',rfl,h1,h2⟩:=ax hd;refine aO ?_ (ih h2);cases d<;>simp only[RT]at h1⊢;exact⟨h1.1,trivial⟩
 |stop _ ih=>intro ds hd;obtain⟨d,m',rfl,h1,h2⟩:=ax hd;refine aO ?_ (ih h2);cases d<;>simp only[RT]at h1⊢;exact⟨h1.1,trivial⟩
 |o5 _ ih=>intro ds hd;obtain⟨d,m',rfl,h1,h2⟩:=ax hd;refine aO ?_ (ih h2);cases d<;>simp only[RT]at h1⊢;exact⟨h1.1,.inl ⟨h1.2.1,h1.2.2,lz h1.1⟩⟩
 |jo _ ih=>
  rename_i ap _ _ _;intro ds hd;obtain⟨d,m',rfl,h1,h2⟩:=ax hd;refine aO ?_ (ih h2);cases d<;>simp only[RT]at h1⊢;obtain⟨rfl,rfl,rfl⟩:=h1;refine⟨trivial,?_⟩;cases ap with
  |no=>trivial
  |full=>exact⟨rfl,rfl⟩
  |o5 g=>exact .inl ⟨rfl,rfl,rfl⟩
  |stop b=>trivial
  |BM g=>exact .inl ⟨rfl,rfl,rfl⟩
 |agg _ _ Qm SO=>intro ds hd;obtain⟨d,m',rfl,h1,h2⟩:=ax hd;refine aO ?_ (SO h2);cases d<;>simp only[RT]at h1⊢;exact Qm h1
mutual
theorem ZU:∀(v:TV)(d:DV),(∀k∈refs v,ι' k=ι k)->RT ι S v d->RT ι' S v d
 |.unk,_,_,_=>by simp only[RT]
 |.val _,d,_,k=>by cases d<;>simp only[RT]at k⊢;exact k
 |.jo,d,_,k=>by cases d<;>simp only[RT]at k⊢;exact k
 |.agg l,d,h,k=>by cases d<;>simp only[RT]at k⊢;exact j3 l _ h k
 |.tup l,d,h,k=>by cases d<;>simp only[RT]at k⊢;exact j3 l _ h k
 |.sl t l .no,d,_,k=>by cases d<;>simp only[RT]at k⊢;exact k
 |.sl t l .full,d,_,k=>by cases d<;>simp only[RT]at k⊢;exact k
 |.sl t l (.stop _),d,_,k=>by cases d<;>simp only[RT]at k⊢;exact k
 |.sl t l (.BM g),d,h,k=>by cases d<;>simp only[RT,pq]at k⊢;rw[h g (by simp[refs])];exact k
 |.sl t l (.o5 g),d,h,k=>by cases d<;>simp only[RT,pq]at k⊢;rw[h g (by simp[refs])];exact k
 |.ptr id off,d,h,k=>by cases d<;>simp only[RT]at k⊢;rw[h id (by simp[refs])];exact k
 |.eU t l i off,d,_,k=>by cases d<;>simp only[RT]at k⊢;exact k
 |.mp id,d,h,k=>by cases d<;>simp only[RT]at k⊢;rw[h id (by simp[refs])];exact k
 |.so g t,d,h,k=>by cases d<;>simp only[RT]at k⊢;rw[h g (by simp[refs])];exact k
 |.nj k0 fn te,d,h,k=>by cases d<;>simp only[RT]at k⊢;obtain⟨k1,ps,a,b,env,AW,k4,k2,k3⟩:=k;exact⟨(h k0 (by simp[refs])).trans k1,ps,a,b,env,AW,k4,k2,j3 te env (λj hj=>h j (by simp[refs,hj])) k3⟩
 |.sp g t i off,d,h,k=>by cases d<;>simp only[RT]at k⊢;rw[h g (by simp[refs])];exact k
 |.fn f a b,d,h,k=>by cases d<;>simp only[RT]at k⊢;exact⟨k.1,j3 a _ (λj hj=>h j (by simp[refs,hj])) k.2.1,j3 b _ (λj hj=>h j (by simp[refs,hj])) k.2.2⟩
theorem j3:∀(l:cn)(m:cj),(∀k∈eL l,ι' k=ι k)->cz ι S l m->cz ι' S l m
 |[],m,_,k=>by rw[aN k];exact bH
 |a::l,m,h,k=>by obtain⟨d,m',rfl,h1,h2⟩:=ax k;exact aO (ZU a d (λj hj=>h j (by simp[eL,hj])) h1) (j3 l m' (λj hj=>h j (by simp[eL,hj])) h2)
end
theorem CB{l m:cp}(h:BR l m):∀{k:Nat}{b:TB},l[k]? =some b->b=.none\/(∃e s,b=.own e s/\(m[k]? =some (.own e s)\/m[k]? =none))\/(∃a c,b=.cells a/\m[k]? =some (.cells c)/\uD a c)\/(m[k]? =some b/\(∀l,b≠.cells l)/\∀e s,b≠.own e s):=by
 induction h with
 |nil=>intro k b hb;simp at hb
 |none _ ih=>grind
 |own _ ih=>grind
 |new _ ih=>grind
 |cells hl _ ih=>grind
 |map _ ih=>grind
 |rows _ ih=>grind
 |loop _ ih=>grind
theorem Au{k:Nat}{a:cn}:∀{tS:cp}{j:Nat},tS[j]? =some (.cells a)->k∈eL a->k∈nE tS
 |[],_,h,_=>by simp at h
 |b::l,0,h,hk=>by simp only[dB,aF]at h;subst h;simp[nE,hk]
 |b::l,j+1,h,hk=>by have:=Au (tS:=l) (j:=j) (by simpa using h) hk;cases b<;>simp[nE,this]
theorem yH(h:bL ι te tS env S)(hl:uD lG te)(hb:BR gZ tS)(jU:okB lG gZ=true)(hB:nM B gZ):∃ι1,bL ι1 lG gZ env S/\Fr B ι S ι1 S/\(∀k,ι1 k=if kU gZ k then ι k else none):=by
 simp only[okB,pV,aC,aR]at jU;refine⟨λk=>if kU gZ k then ι k else none,⟨?_,λk l hk=>?_,λk e s hk t ht=>?_,λk k' hk=>?_,λi j k' hi hj=>?_,λk b hk t ht=>?_⟩,⟨λ_ _ _=>rfl,λk k' hk=>?_,λk hk=>?_⟩,λ_=>rfl⟩;refine j3 _ _ (λk hk=>?_) (MQ hl h.env);rw[if_pos (jU.1 k hk)]
 .rcases CB hb hk with e|⟨_,_,e,-⟩|⟨a,c,e,h1,h2⟩|⟨_,e,-⟩;cases e;cases e
  rotate_left
  grind
  cases e;obtain⟨k',ds,n1,n2,n3⟩:=h.cells k c h1;refine⟨k',ds,?_,n2,j3 _ _ (λj hj=>?_) (MQ h2 n3)⟩;have:kU gZ k=true:=by simp only[kU,hk]
  rw[if_pos this];exact n1
  rw[if_pos (jU.2 j (Au hk hj))]
 .split at ht
  .rcases CB hb hk with e'|⟨_,_,e',h1⟩|⟨a,c,e',h1,h2⟩|⟨_,-,e'⟩
   rotate_left 3
   grind
   cases e';cases e';rcases h1 with h1|h1;exact h.own k e s h1 t ht;obtain⟨b,h2,-⟩:=h.qc k t ht;rw[h1]at h2;cases h2
   cases e'
  cases ht
 split at hk;rename_i mW;unfold kU at mW;split at mW
 grind
 grind
 grind
 cases hk;split at hi;split at hj;exact h.inj i j k' hi hj;cases hj;cases hi;split at ht;rcases CB hb hk with e'|⟨_,_,e',-⟩|⟨_,_,e',-⟩|⟨h1,-⟩;subst e';trivial
 subst e';trivial
 subst e';trivial
 exact h.mp k _ h1 t ht;cases ht
 grind
 obtain⟨l,h1⟩:=hB k hk;have:kU gZ k=true:=by cases l<;>(simp only[kX]at h1;simp only[kU,h1])
 simp only[this,if_true]
theorem yU(hb:BR gZ tS)(hB:nM B tS)(h:∀k,k∈B->kU gZ k=true):nM B gZ:=by
 intro k hk;have h1:=h k hk;obtain⟨l,h2⟩:=hB k hk;unfold kU at h1;split at h1;cases h1;cases h1;rename_i b xD uC;cases hx:gZ[k]? with
 |none=>exact(uC hx).elim
 |some b=>
  rcases CB hb hx with e|⟨_,_,e,h3⟩|⟨a,c,e,-,-⟩|⟨h3,e,-⟩
  grind
  grind
  exact⟨some a,by rw[e];rfl⟩
  grind
theorem Km(h:bL ι te tS env S):bL ι te (oD tS) env S:=by
 obtain⟨n,hn⟩:=Ia tS;have hT:∀(k:Nat)(b:TB),b≠.none->(tS[k]? =some b↔(oD tS)[k]? =some b):=by grind
 refine⟨h.env,λk l hk=>h.cells k l ((hT _ _ (λe=>ar)).2 hk),λk e s hk=>h.own k e s ((hT _ _ (λe=>ar)).2 hk),λk k' hk=>?_,h.inj,λk b hk t ht=>by
  cases b with
  |none=>trivial
  |_=>exact h.mp k _ ((hT _ _ (λe=>ar)).2 hk) t ht⟩
 obtain⟨b,h1,h2⟩:=h.qc k k' hk;exact⟨b,(hT _ _ h2).1 h1,h2⟩
theorem La(hB:nM B tS):nM B (oD tS):=by intro k hk;obtain⟨l,h1⟩:=hB k hk;obtain⟨n,hn⟩:=Ia tS;refine⟨l,?_⟩;rw[hn,Qg]at h1;split at h1;exact h1;rw[CL]at h1;split at h1;cases l<;>cases h1;cases h1
section
variable (P:Program) (ty:fo) (aD:bR) (call:aY) (yf:di) (B:cx) (L:Nat) (fn:FuncId) (iA:Bool)
def WT(c:Code)(te:cn)(tS:cp)(Q:DX->cn->cp->Prop):Prop:=
 ∀ι env S,bL ι te tS env S->nM B tS->∃e aK S' ι' bO bI,cD P ty aD call yf L fn iA c env S=some (e,aK,S')/\bL ι' bO bI aK S'/\nM B bI/\Fr B ι S ι' S'/\Nn S.length S S'/\Q e bO bI
end
section
variable {L:Nat} {fn:FuncId} {iA:Bool} {a b c:Code} {Q Q':DX->cn->cp->Prop}
theorem WT.mono (h:WT P ty aD call yf B L fn iA c te tS Q)(hq:∀e te tS,Q e te tS->Q' e te tS):WT P ty aD call yf B L fn iA c te tS Q':=by intro ι env S hR hB;obtain⟨e,aK,S',ι',bO,bI,h1,h2,h3,h4,h5,h6⟩:=h ι env S hR hB;exact⟨e,aK,S',ι',bO,bI,h1,h2,h3,h4,h5,hq _ _ _ h6⟩
theorem Zr(h:Q .normal te tS):WT P ty aD call yf B L fn iA .skip te tS Q:=λι env S hR hB=>⟨.normal,env,S,ι,te,tS,rfl,hR,hB,Fr.refl _ _ _,fM _ _,h⟩
theorem VT{l:Nat}(h:Q .normal te tS):WT P ty aD call yf B L fn iA (.label l) te tS Q:=λι env S hR hB=>⟨.normal,env,S,ι,te,tS,rfl,hR,hB,Fr.refl _ _ _,fM _ _,h⟩
theorem Zu{id:Nat}(h:Q (.exit id) te tS):WT P ty aD call yf B L fn iA (.exit id) te tS Q:=λι env S hR hB=>⟨.exit id,env,S,ι,te,tS,rfl,hR,hB,Fr.refl _ _ _,fM _ _,h⟩
theorem ac3(h:Q .ret te tS):WT P ty aD call yf B L fn iA .ret te tS Q:=λι env S hR hB=>⟨.ret,env,S,ι,te,tS,rfl,hR,hB,Fr.refl _ _ _,fM _ _,h⟩
theorem VL(h:WT P ty aD call yf B L fn iA c te tS Q):WT P ty aD call yf B L fn iA (.scope c) te tS Q:=λι env S hR hB=>by obtain⟨e,aK,S',ι',bO,bI,h1,h2⟩:=h ι env S hR hB;exact⟨e,aK,S',ι',bO,bI,by simp only[cD,h1],h2⟩
theorem U2(h:WT P ty aD call yf B L fn iA a te tS λe te tS=>match e with|.normal=>WT P ty aD call yf B L fn iA b te tS Q|e=>Q e te tS):WT P ty aD call yf B L fn iA (.seq a b) te tS Q:=by
 intro ι env S hR hB;obtain⟨e,aK,S',ι',bO,bI,h1,h2,h3,h4,h5,h6⟩:=h ι env S hR hB;cases e with
 |normal=>obtain⟨e,qC,wq,ι'',s5,s6,k1,k2,k3,k4,k5,k6⟩:=h6 ι' aK S' h2 h3;exact⟨e,qC,wq,ι'',s5,s6,by simp only[cD,h1,k1],k2,k3,h4.trans k4,tT h5 k5,k6⟩
 |exit id=>exact⟨_,aK,S',ι',bO,bI,by simp only[cD,h1],h2,h3,h4,h5,h6⟩
 |ret=>exact⟨_,aK,S',ι',bO,bI,by simp only[cD,h1],h2,h3,h4,h5,h6⟩
theorem Zv{x:Operand}{t:Bool}(hx:fe te x=some (.val (.bool t)))(h1:t=true->WT P ty aD call yf B L fn iA a te tS Q)(h2:t=false->WT P ty aD call yf B L fn iA b te tS Q):WT P ty aD call yf B L fn iA (.cond x a b) te tS Q:=by
 intro ι env S hR hB;obtain⟨d,k1,k2⟩:=bt hR.env hx;cases d<;>simp only[RT]at k2;subst k2;cases t with
 |true=>obtain⟨e,aK,S',ι',bO,bI,m1,m2⟩:=h1 rfl ι env S hR hB;exact⟨e,aK,S',ι',bO,bI,by simp only[cD,k1,m1],m2⟩
 |false=>obtain⟨e,aK,S',ι',bO,bI,m1,m2⟩:=h2 rfl ι env S hR hB;exact⟨e,aK,S',ι',bO,bI,by simp only[cD,k1,m1],m2⟩
theorem VV{id:Nat}(h:WT P ty aD call yf B L fn iA c te tS λe te tS=>match e with|.exit iz=>Q (if iz=id then .normal else .exit iz) te tS|e=>Q e te tS):WT P ty aD call yf B L fn iA (.block id c) te tS Q:=by
 intro ι env S hR hB;obtain⟨e,aK,S',ι',bO,bI,h1,h2,h3,h4,h5,h6⟩:=h ι env S hR hB;cases e with
 |normal=>exact⟨_,aK,S',ι',bO,bI,by simp only[cD,h1],h2,h3,h4,h5,h6⟩
 |exit iz=>exact⟨_,aK,S',ι',bO,bI,by simp only[cD,h1],h2,h3,h4,h5,h6⟩
 |ret=>exact⟨_,aK,S',ι',bO,bI,by simp only[cD,h1],h2,h3,h4,h5,h6⟩
theorem Zs(hl:uD lG te)(hb:BR gZ tS)(jU:okB lG gZ=true)(hB:∀k,k∈B->kU gZ k=true)(h:WT P ty aD call yf B L fn iA c lG gZ Q):WT P ty aD call yf B L fn iA c te tS Q:=by intro ι env S hR Qt;have Qu:=yU hb Qt hB;obtain⟨ι1,h1,h2,-⟩:=yH hR hl hb jU Qu;obtain⟨e,aK,S',ι',bO,bI,m1,m2,m3,m4,m5⟩:=h ι1 env S h1 Qu;exact⟨e,aK,S',ι',bO,bI,m1,m2,m3,h2.trans m4,m5⟩
structure Fits (B:cx) (lG:cn) (gZ:cp) (te:cn) (tS:cp):Prop where
 l:uD lG te
 b:BR gZ tS
 ok:okB lG gZ=true
 base:∀k,k∈B->kU gZ k=true
theorem VS{id:Nat}(h:WL P ty aD call yf B ops 0 te tS λte tS=>Q .normal te (oD tS)):WT P ty aD call yf B L fn iA (.region id ops false) te tS Q:=by intro ι env S hR hB;obtain⟨aK,S',ι',bO,bI,h1,h2,h3,h4,h5,h6⟩:=h ι env S hR hB;refine⟨.normal,aK,S',ι',bO,oD bI,?_,Km h2,La h3,h4,h5,h6⟩;rw[pS]at h1;simp only[cD,pN,lB,JA,nW,Bool.false_and,gh,aJ,if_false,h1,az]
theorem VQ{id:Nat}(hd:kY ops (Region.before ops)=true)(hl:vK P ops=false)(h:WQ P ty aD call yf ops tS 0 te λte=>Q .normal te tS):WT P ty aD call yf B L fn iA (.region id ops true) te tS Q:=by intro ι env S hR hB;obtain⟨aK,bO,h1,h2,h3⟩:=h ι env S hR;refine⟨.normal,aK,S,ι,bO,tS,?_,h2,hB,Fr.refl _ _ _,fM _ _,h3⟩;rw[pS]at h1;simp only[vK,Bool.or_eq_false_iff]at hl;simp only[cD,pN,lB,JA,nW,Bool.false_and,gh,if_true,hd,hl.2,fN,aJ,if_false,h1,az]
theorem VU{id:Nat}(hd:kY ops (Region.before ops)=true)(hn:vK P ops=true)(h:WD P ty aD call yf B ops 0 te (tS++List.replicate ops.size .none) [] λte tS=>Q .normal te (oD tS)):WT P ty aD call yf B L fn iA (.region id ops true) te tS Q:=by
 intro ι env S hR hB;have jM:=Pb hR ops.size ops.size;obtain⟨w,hw⟩:=Mz jM;have hB':nM B (tS++List.replicate ops.size .none):=λk hk=>by obtain⟨l,h1⟩:=hB k hk;exact⟨l,by rw[eC (aI.1 h1).1];exact h1⟩
 obtain⟨aK,S',wm,ι',w',bO,bI,ft,h1,h2,-,h4,h5,h6,h7,h8,h9⟩:=h ι w env (S++List.replicate ops.size .none) S.length jM hB' hw (λj _ hj=>by rw[fP U,CL,if_pos U]);refine⟨.normal,aK,S',ι',bO,oD bI,?_,Km h5,La h6,⟨λk' hl hno=>?_,λk k' hk=>?_,h7.base⟩,⟨?_,λj hj dN=>?_⟩,h9⟩;rw[pS]at h1;simp only[cD,pN,lB,JA,nW,Bool.false_and,gh,if_true,hd,fN,aJ,if_false,Si hn,h1,adH h2 (by simpa using h4),az];have e:=ext_get (n:=ops.size) hl;rw[h7.rest k' (by obtain⟨b,e1,e2⟩:=hl;exact⟨b,e.trans e1,e2⟩) hno];exact e;refine(h7.ours k k' hk).imp (λe=>e) λYy hl=>Yy ?_;obtain⟨b,e1,e2⟩:=hl;exact⟨b,(ext_get ⟨b,e1,e2⟩).trans e1,e2⟩
 grind
 grind
end
end Go.Tv
