import Derived.Test.YtedcgbkilmlbhaaPk03
namespace Go.Tv
open Go Go.Di
variable {P:Program} {ty:fR} {tt:TypeId->Option TT} {ι ι' w:kY} {S S':ai} {te:List TV} {env:List DV} {tS:List TB} {aK:bR} {call:bt} {yf:ej} {o:Oper} {aF nT:Nat} {B:List Nat} {r:TR} {ops:Array Oper}
def WQ(P:Program)(ty:fR)(aK:bR)(call:bt)(yf:ej)(ops:Array Oper)(tS:List TB)(k:Nat)(te:List TV)(Q:List TV->Prop):Prop:=
 ∀ι env S,bT ι te tS env S->∃aL bX,qU P ty aK call yf ops S (ops.toList.drop k) env=some aL/\bT ι bX tS aL S/\Q bX
theorem UW{k:Nat}(hk:ops.size<=k){Q:List TV->Prop}(h:Q te):WQ P ty aK call yf ops tS k te Q:=by intro ι env S hR;rw[j3 (by simpa using hk)];exact⟨env,te,rfl,hR,h⟩
theorem Zx{k:Nat}(ho:ops[k]? =some o)(hw:ez ops te o=some false){Q:List TV->Prop}(h:WQ P ty aK call yf ops tS (k+1) (j8 te o.dst QH) Q):WQ P ty aK call yf ops tS k te Q:=by intro ι env S hR;obtain⟨aL,bX,k1,k2,k3⟩:=h ι (ku env o.dst bF) S (oL hR MU _);refine⟨aL,bX,?_,k2,k3⟩;rw[oR ho];simp only[qU,iJ hR.env hw,aI,if_false,k1]
theorem NP{ρ:Operand->Option DV}{d:DV}(hp:∃q,bQ P ty tt te tS o=some q)(h:ah P ty aK call yf ρ o S S.length=some (d,S)):dD P ty aK call yf ρ o S=some d:=by
 obtain⟨q,hp⟩:=hp;cases ho:o.op with
 |alloc e=>simp only[bQ,ho]at hp;cases hp
 |box t x=>simp only[bQ,ho]at hp;cases hp
 |store t a x=>simp only[bQ,ho]at hp;cases hp
 |makeMap t x=>simp only[bQ,ho]at hp;cases hp
 |makeSlice t x y=>simp only[bQ,ho]at hp;cases hp
 |buildSlice t n ps=>
  have hh:ty.h o≠1:=by
   simp only[bQ,ho]at hp;intro e;split at hp
   .split at hp;.simp[e]at hp
    cases hp
   cases hp
  simp only[dD,ho,h,ay]
 |mapUpdate t m k b=>simp only[bQ,ho]at hp;cases hp
 |call cl=>
  obtain⟨callee,args,argTypes⟩:=cl;cases callee with
  |builtin b=>
   cases b with
   |append=>simp only[bQ,ho]at hp;cases hp
   |_=>simp only[dD,ho,h,ay]
  |value f=>simp only[bQ,ho]at hp;cases hp
  |_=>simp only[dD,ho,h,ay]
 |_=>simp only[dD,ho,h,ay]
theorem Iz{k:Nat}{v:TV}{c:Prop}(ho:ops[k]? =some o)(hw:ez ops te o=some true)(hp:bQ P ty tt te tS o=some (v,c))(hc:c){Q:List TV->Prop}(h:WQ P ty aK call yf ops tS (k+1) (j8 te o.dst v) Q):WQ P ty aK call yf ops tS k te Q:=by intro ι env S hR;obtain⟨d,h1,h2⟩:=KU (aK:=aK) (call:=call) (yf:=yf) (aF:=S.length) hR.env hR.cells hp hc;obtain⟨aL,bX,k1,k2,k3⟩:=h ι (ku env o.dst d) S (oL hR h2 _);refine⟨aL,bX,?_,k2,k3⟩;rw[oR ho];simp only[qU,iJ hR.env hw,if_true,NP ⟨_,hp⟩ h1,k1]
def OX(w:kY):List de->List de->Prop
 |[],[]=>True
 |f::l,g::m=>Kn w f g/\OX w l m
 |_,_=>False
theorem Eo{w:kY}:∀{l m:List de}{i:Nat}{f:de},OX w l m->l[i]? =some f->∃g,m[i]? =some g/\Kn w f g
 |[],_,_,_,_,h=>by simp at h
 |_::_,[],_,_,h,_=>h.elim
 |f::l,g::m,0,f',h,hx=>by simp only[bY,aB]at hx;subst hx;exact⟨g,rfl,h.1⟩
 |f::l,g::m,i+1,f',h,hx=>by obtain⟨g',h1,h2⟩:=Eo (i:=i) h.2 (by simpa using hx);exact⟨g',by simpa using h1,h2⟩
theorem Xm{w:kY}{f g f' g':de}(hf:Kn w f f')(hg:Kn w g g')(h:f.meets g=true):f'.meets g'=true:=by
 obtain⟨fi,fw⟩:=f;obtain⟨gi,gw⟩:=g;obtain⟨fi',fw'⟩:=f';obtain⟨gi',gw'⟩:=g';obtain⟨Ms,Tk⟩:=hf;obtain⟨YF,Mf⟩:=hg;simp only[de.meets,aC,gY]at h⊢;refine⟨h.1.imp Ms YF,?_⟩;have h:=h.2;have ne:∀{m l:List Nat},(∀j∈m,∃k∈l,w j=some k)->m≠[]->(!l.isEmpty)=true:=by
  intro m l hml hm;cases m with
  |nil=>exact(hm rfl).elim
  |cons j m=>
   obtain⟨k,hk,-⟩:=hml j (by simp);cases l with
   |nil=>cases hk
   |cons _ _=>rfl
 cases fi' with
 |none=>
  cases gi' with
  |none=>rfl
  |some l'=>obtain⟨m,e,hm⟩:=Mf _ rfl;simp only at e;subst e;refine ne hm ?_;rintro rfl;cases fi<;>simp at h
 |some l=>
  obtain⟨m,e,hm⟩:=Tk _ rfl;simp only at e;subst e;cases gi' with
  |none=>refine ne hm ?_;rintro rfl;cases gi<;>simp at h
  |some l'=>obtain⟨m',e,HE⟩:=Mf _ rfl;simp only at e;subst e;simp only[List.any_eq_true,List.contains_iff_mem]at h⊢;obtain⟨j,hj,wv⟩:=h;obtain⟨k,hk,e1⟩:=hm j hj;obtain⟨k',pG,e2⟩:=HE j wv;rw[e1]at e2;cases e2;exact⟨k,hk,pG⟩
theorem aew{w:kY}{b:Array Nat}{fs ft:List de}(hf:OX w fs ft)(h:ur b ft=true):ur b fs=true:=by
 simp only[ur,aX,sX,List.getElem?_zipIdx,af,Prod.forall,az]at h⊢;rintro f i ⟨i',f0,h1,rfl,rfl⟩ g j ⟨j',g0,h2,rfl,rfl⟩;obtain⟨f',k1,k2⟩:=Eo hf h1;obtain⟨g',k3,k4⟩:=Eo hf h2;have:=h f' (0+i') ⟨i',f',k1,rfl,rfl⟩ g' (0+j') ⟨j',g',k3,rfl,rfl⟩;simp only[gY,nI]at this⊢;refine this.imp (Or.imp (Or.imp id λhn=>?_) id) id;cases hm:f0.meets g0 with
 |false=>rfl
 |true=>rw[Xm k2 k4 hm]at hn;cases hn
def WD(P:Program)(ty:fR)(aK:bR)(call:bt)(yf:ej)(B:List Nat)(ops:Array Oper)(k:Nat)(te:List TV)(tS:List TB)(fs:List de)(Q:List TV->List TB->Prop):Prop:=
 ∀ι w env S n0,bT ι te tS env S->oE B tS->Yk ι w->(∀j,k<=j->j<ops.size->S[n0+j]? =some .none)->
  ∃aL S' xh ι' w' bX bN ft,tG P ty aK call yf ops n0 (ops.toList.drop k) k env S=some (aL,S',xh)/\OX w' xh ft/\(∀j,(∀i,k<=i->i<ops.size->j≠n0+i)->w' j=w j)/\ur (Region.before ops) (fs++ft)=true/\
   bT ι' bX bN aL S'/\oE B bN/\Fr B ι S ι' S'/\(S.length<=S'.length/\∀j,(∀i,k<=i->i<ops.size->j≠n0+i)->S[j]? =some .none->S'[j]? =some .none)/\Q bX bN
variable {n0T:Nat} {fs:List de}
theorem adT{k:Nat}(hk:ops.size<=k){Q:List TV->List TB->Prop}(hm:ur (Region.before ops) fs=true)(h:Q te tS):WD P ty aK call yf B ops k te tS fs Q:=by intro ι w env S n0 hR hB hw hn;rw[j3 (by simpa using hk)];exact⟨env,S,[],ι,w,te,tS,[],rfl,trivial,λ_ _=>rfl,by simpa using hm,hR,hB,Fr.refl _ _ _,⟨ak _,λ_ _ h=>h⟩,h⟩
theorem tE{k:Nat}(ho:ops[k]? =some o)(hw:ez ops te o=some true)(yq:Ak tS (n0T+k)=true){Q:List TV->List TB->Prop}{K:TV->List TV->List TB->de->Prop}(hd:Does P ty aK call yf B o (n0T+k) te tS true K)
  (h:∀v bX bN ft,K v bX bN ft->WD P ty aK call yf B ops (k+1) (j8 bX o.dst v) bN (fs++[ft]) Q):WD P ty aK call yf B ops k te tS fs Q:=by
 intro ι w env S n0 hR hB hwk hn;have hsz:k<ops.size:=(aN.1 ho).1;have QU:=hn k (ak _) hsz;obtain⟨d,S',ι',w',v,bX,bN,f,ft,h1,h2,h3,h4,h5,h6,h7,h8,h9,ue,HI,Yf⟩:=hd ι w env S (n0+k) hR hB hwk (aap yq) (.inl QU) (λ_=>QU);obtain⟨aL,xk,xh,ι'',SY,uk,um,fts,k1,k2,k3,k4,k5,k6,k7,k8,k9⟩:=h v bX bN ft Yf ι' w' (ku env o.dst d) S' n0 (oL h5 h6 _) ue h7 (λj hj wv=>HI.2 _ (by omega) (hn j (by omega) wv));refine⟨aL,xk,f::xh,ι'',SY,uk,um,ft::fts,?_,⟨⟨h3.1,λl hl=>?_⟩,k2⟩,λj hj=>?_,?_,k5,k6,h9.trans k7,⟨bD HI.1 k8.1,λj hj dm=>?_⟩,k9⟩;.rw[oR ho];simp only[tG,iJ hR.env hw,if_true,h2 rfl,k1]
 .obtain⟨m,e1,e2⟩:=h3.2 l hl;refine⟨m,e1,λj hj=>?_⟩;obtain⟨k',pG,e3⟩:=e2 j hj;refine⟨k',pG,?_⟩;rw[k3 j ?_];.exact e3
  intro i hi Fg he;rcases h4 l m hl e1 j hj with rfl|⟨i',ahO⟩;.omega
  obtain⟨b,e4,e5⟩:=hR.live ahO;rw[he,hn i (by omega) Fg]at e4;cases e4;exact e5 rfl
 .rw[k3 j λi hi Fg=>hj i (by omega) Fg,h8 rfl j (hj k (ak _) hsz)]
 .simpa using k4
 exact k8.2 j (λi hi Fg=>hj i (by omega) Fg) (HI.2 j (hj k (ak _) hsz) dm)
theorem ZE{k:Nat}(ho:ops[k]? =some o)(hw:ez ops te o=some false){Q:List TV->List TB->Prop}
  (h:WD P ty aK call yf B ops (k+1) (j8 te o.dst QH) tS (fs++[⟨some [],false⟩]) Q):WD P ty aK call yf B ops k te tS fs Q:=by
 intro ι w env S n0 hR hB hwk hn;have hsz:k<ops.size:=(aN.1 ho).1;obtain⟨aL,xk,xh,ι'',SY,uk,um,fts,k1,k2,k3,k4,k5,k6,k7,k8,k9⟩:=h ι w (ku env o.dst bF) S n0 (oL hR MU _) hB hwk (λj hj wv=>hn j (by omega) wv);refine⟨aL,xk,⟨some [],false⟩::xh,ι'',SY,uk,um,⟨some [],false⟩::fts,?_,⟨⟨id,λl hl=>⟨[],rfl,λj hj=>by cases hj⟩⟩,k2⟩,λj hj=>?_,?_,k5,k6,k7,⟨k8.1,λj hj dm=>?_⟩,k9⟩;.rw[oR ho];simp only[tG,iJ hR.env hw,aI,if_false,k1]
 .exact k3 j λi hi Fg=>hj i (by omega) Fg
 .simpa using k4
 exact k8.2 j (λi hi Fg=>hj i (by omega) Fg) dm
def Uq(o:Oper):Bool:=
 o.guard.isNone&&match o.op with
 |.alloc _|.box .. |.store .. |.makeMap .. |.mapUpdate .. =>true
 |.call {callee:=.builtin .append,.. }=>true
 |_=>false
theorem xJ:∀{l:List Oper}{env:List DV},l.any Uq=true->qU P ty aK call yf ops S l env=none
 |[],_,h=>by cases h
 |o::l,env,h=>by
  simp only[List.any_cons,gY]at h;simp only[qU];rcases h with h|h
  .simp only[Uq,aC]at h;obtain⟨h1,h2⟩:=h;have hw:cD ops env o=true:=by unfold cD;rw[Option.isNone_iff_eq_none.1 h1]
   have hq:dD P ty aK call yf (jr env) o S=none:=by
    split at h2;.rename_i ho;simp only[dD,ho]
    .rename_i ho;simp only[dD,ho]
    .rename_i ho;simp only[dD,ho]
    .rename_i ho;simp only[dD,ho]
    .rename_i ho;simp only[dD,ho]
    .rename_i ho;simp only[dD,ho]
    cases h2
   simp only[hw,if_true,hq]
  split
  .split;.exact xJ h
   rfl
  exact xJ h
def wJ(P:Program)(ops:Array Oper):Bool:=ops.toList.any Uq||ops.toList.any (IV P)
theorem R8{env:List DV}(h:wJ P ops=true):(if ops.toList.any (IV P)then none else qU P ty aK call yf ops S ops.toList env)=none:=by
 split;.rfl
 rename_i hp;unfold wJ at h;rw[Bool.not_eq_true]at hp;rw[hp,Bool.or_false]at h;exact xJ h
theorem ext_get{S:ai}{n k:Nat}(h:Lv S k):(S++List.replicate n .none)[k]? =S[k]? :=by obtain⟨b,h1,-⟩:=h;exact ee (aA.1 h1).1
theorem Pn(h:bT ι te tS env S)(n m:Nat):bT ι te (tS++List.replicate n .none) env (S++List.replicate m .none):=by
 have hl:∀k k',ι k=some k'->(S++List.replicate m DB.none)[k']? =S[k']? :=λk k' hk=>ext_get (h.live hk);have K:jy ι S ι (S++List.replicate m .none) λ_=>False:=λk k' _ hk=>⟨hk,dO (hl k k' hk)⟩;have hT:∀(k:Nat)(b:TB),(tS++List.replicate n TB.none)[k]? =some b->b≠.none->tS[k]? =some b:=by
  intro k b hk hb;rw[qK]at hk;split at hk;.exact hk
  rw[nK]at hk;split at hk;.cases hk;exact(hb rfl).elim
  cases hk
 refine⟨bu K _ _ h.env,λk l hk=>?_,λk e s hk t ht=>?_,λk k' hk=>?_,h.inj,λk b hk t ht=>by
  rw[hl k t ht];cases b with
  |none=>trivial
  |_=>exact h.mp k _ (hT k _ hk (λe=>by cases e)) t ht⟩
 .obtain⟨k',ds,h1,h2,h3⟩:=h.cells k l (hT k _ hk (λe=>by cases e));exact⟨k',ds,h1,by rw[hl k k' h1];exact h2,bu K _ _ h3⟩
 .obtain⟨n',h1⟩:=h.own k e s (hT k _ hk (λe=>by cases e)) t ht;exact⟨n',by rw[hl k t ht];exact h1⟩
 obtain⟨b,h1,h2⟩:=h.ql k k' hk;exact⟨b,by rw[ee (aA.1 h1).1];exact h1,h2⟩
end Go.Tv
namespace Go.Tv
open Go Go.Di
def oy:List TB->List TB
 |[]=>[]
 |b::l=>match oy l,b with
  |[],.none=>[]
  |l',b=>b::l'
theorem IB:∀tS:List TB,∃n,tS=oy tS++List.replicate n .none
 |[]=>⟨0,rfl⟩
 |b::l=>by
  obtain⟨n,h⟩:=IB l;simp only[oy];split;.rename_i e;rw[e]at h;exact⟨n+1,by rw[h];rfl⟩
  exact⟨n,by rw[nH,<-h]⟩
inductive kF:List TV->List TV->Prop
 |nil:kF [] []
 |unk {v:TV} {l m:List TV}:kF l m->kF (.unk::l) (v::m)
 |same {v:TV} {l m:List TV}:kF l m->kF (v::l) (v::m)
 |no {t:TT} {x:List t.den} {ap:Ap} {l m:List TV}:kF l m->kF (.sl t x .no::l) (.sl t x ap::m)
 |stop {t:TT} {x:List t.den} {ap:Ap} {b:Bool} {l m:List TV}:kF l m->kF (.sl t x (.stop b)::l) (.sl t x ap::m)
 |je {t:TT} {g:Nat} {l m:List TV}:kF l m->kF (.sl t [] (.je g)::l) (.sl t [] .full::m)
 |ax {t:TT} {ap:Ap} {l m:List TV}:kF l m->kF (.sl t [] ap::l) (.ax::m)
 |agg {a b l m:List TV}:kF a b->kF l m->kF (.agg a::l) (.agg b::m)
theorem kF.eq {u v:TV}{l m:List TV}(h:u=v)(k:kF l m):kF (u::l) (v::m):=by subst h;exact .same k
theorem kF.refl:∀l:List TV,kF l l
 |[]=>.nil
 |_::l=>.same (kF.refl l)
mutual
def refs:TV->List Nat
 |.sl _ _ (.je g)=>[g]
 |.sl _ _ (.Cf g)=>[g]
 |.ptr id _=>[id]
 |.mp id=>[id]
 |.so g _=>[g]
 |.sp g _ _ _=>[g]
 |.od k _ te=>k::eW te
 |.agg l=>eW l
 |.tup l=>eW l
 |.fn _ a b=>eW a++eW b
 |_=>[]
def eW:List TV->List Nat
 |[]=>[]
 |a::l=>refs a++eW l
end
inductive Ck:List TB->List TB->Prop
 |nil {l:List TB}:Ck [] l
 |none {b:TB} {l m:List TB}:Ck l m->Ck (.none::l) (b::m)
 |own {e s:Nat} {l m:List TB}:Ck l m->Ck (.own e s::l) (.own e s::m)
 |new {e s:Nat} {l:List TB}:Ck l []->Ck (.own e s::l) []
 |cells {a b:List TV} {l m:List TB}:kF a b->Ck l m->Ck (.cells a::l) (.cells b::m)
 |map {kt:TT} {c:List kt.den} {l m:List TB}:Ck l m->Ck (.map kt c::l) (.map kt c::m)
 |rows {t:TT} {e:Nat} {c:List t.den} {z:Bool} {l m:List TB}:Ck l m->Ck (.rows t e c z::l) (.rows t e c z::m)
 |loop {l m:List TB}:Ck l m->Ck (.loop::l) (.loop::m)
def lX(tS:List TB)(k:Nat):Bool:=
 match tS[k]? with
 |some .none|none=>false
 |_=>true
def oA:List TB->List Nat
 |[]=>[]
 |.cells a::l=>eW a++oA l
 |_::l=>oA l
def okB(te:List TV)(tS:List TB):Bool:=(eW te++oA tS).all (lX tS)
variable {P:Program} {ty:fR} {tt:TypeId->Option TT} {ι ι' w:kY} {S S':ai} {te mI:List TV} {env:List DV} {tS iM:List TB} {aK:bR} {call:bt} {yf:ej} {o:Oper} {aF nT:Nat} {B:List Nat} {r:TR} {ops:Array Oper}
theorem Nd{l m:List TV}(h:kF l m):∀{ds:List DV},cK ι S m ds->cK ι S l ds:=by
 induction h with
 |nil=>exact id
 |unk _ ih=>intro ds hd;obtain⟨d,m',rfl,h1,h2⟩:=aj hd;exact aT (by simp only[RT]) (ih h2)
 |same _ ih=>intro ds hd;obtain⟨d,m',rfl,h1,h2⟩:=aj hd;exact aT h1 (ih h2)
 |no _ ih=>intro ds hd;obtain⟨d,m',rfl,h1,h2⟩:=aj hd;refine aT ?_ (ih h2);cases d<;>simp only[RT]at h1⊢;exact⟨h1.1,trivial⟩
 |stop _ ih=>intro ds hd;obtain⟨d,m',rfl,h1,h2⟩:=aj hd;refine aT ?_ (ih h2);cases d<;>simp only[RT]at h1⊢;exact⟨h1.1,trivial⟩
 |je _ ih=>intro ds hd;obtain⟨d,m',rfl,h1,h2⟩:=aj hd;refine aT ?_ (ih h2);cases d<;>simp only[RT]at h1⊢;exact⟨h1.1,.inl ⟨h1.2.1,h1.2.2,kN h1.1⟩⟩
 |ax _ ih=>
  rename_i ap _ _ _;intro ds hd;obtain⟨d,m',rfl,h1,h2⟩:=aj hd;refine aT ?_ (ih h2);cases d<;>simp only[RT]at h1⊢;obtain⟨rfl,rfl,rfl⟩:=h1;refine⟨trivial,?_⟩;cases ap with
  |no=>trivial
  |full=>exact⟨rfl,rfl⟩
  |je g=>exact .inl ⟨rfl,rfl,rfl⟩
  |stop b=>trivial
  |Cf g=>exact .inl ⟨rfl,rfl,rfl⟩
 |agg _ _ Qx SC=>intro ds hd;obtain⟨d,m',rfl,h1,h2⟩:=aj hd;refine aT ?_ (SC h2);cases d<;>simp only[RT]at h1⊢;exact Qx h1
mutual
theorem Z0:∀(v:TV)(d:DV),(∀k∈refs v,ι' k=ι k)->RT ι S v d->RT ι' S v d
 |.unk,_,_,_=>by simp only[RT]
 |.val _,d,_,k=>by cases d<;>simp only[RT]at k⊢;exact k
 |.ax,d,_,k=>by cases d<;>simp only[RT]at k⊢;exact k
 |.agg l,d,h,k=>by cases d<;>simp only[RT]at k⊢;exact kM l _ h k
 |.tup l,d,h,k=>by cases d<;>simp only[RT]at k⊢;exact kM l _ h k
 |.sl t l .no,d,_,k=>by cases d<;>simp only[RT]at k⊢;exact k
 |.sl t l .full,d,_,k=>by cases d<;>simp only[RT]at k⊢;exact k
 |.sl t l (.stop _),d,_,k=>by cases d<;>simp only[RT]at k⊢;exact k
 |.sl t l (.Cf g),d,h,k=>by cases d<;>simp only[RT,pL]at k⊢;rw[h g (by simp[refs])];exact k
 |.sl t l (.je g),d,h,k=>by cases d<;>simp only[RT,pL]at k⊢;rw[h g (by simp[refs])];exact k
 |.ptr id off,d,h,k=>by cases d<;>simp only[RT]at k⊢;rw[h id (by simp[refs])];exact k
 |.fq t l i off,d,_,k=>by cases d<;>simp only[RT]at k⊢;exact k
 |.mp id,d,h,k=>by cases d<;>simp only[RT]at k⊢;rw[h id (by simp[refs])];exact k
 |.so g t,d,h,k=>by cases d<;>simp only[RT]at k⊢;rw[h g (by simp[refs])];exact k
 |.od k0 fn te,d,h,k=>by cases d<;>simp only[RT]at k⊢;obtain⟨k1,ps,a,b,env,Bp,k4,k2,k3⟩:=k;exact⟨(h k0 (by simp[refs])).trans k1,ps,a,b,env,Bp,k4,k2,kM te env (λj hj=>h j (by simp[refs,hj])) k3⟩
 |.sp g t i off,d,h,k=>by cases d<;>simp only[RT]at k⊢;rw[h g (by simp[refs])];exact k
 |.fn f a b,d,h,k=>by cases d<;>simp only[RT]at k⊢;exact⟨k.1,kM a _ (λj hj=>h j (by simp[refs,hj])) k.2.1,kM b _ (λj hj=>h j (by simp[refs,hj])) k.2.2⟩
theorem kM:∀(l:List TV)(m:List DV),(∀k∈eW l,ι' k=ι k)->cK ι S l m->cK ι' S l m
 |[],m,_,k=>by rw[aR k];exact bO
 |a::l,m,h,k=>by obtain⟨d,m',rfl,h1,h2⟩:=aj k;exact aT (Z0 a d (λj hj=>h j (by simp[eW,hj])) h1) (kM l m' (λj hj=>h j (by simp[eW,hj])) h2)
end
theorem CU{l m:List TB}(h:Ck l m):∀{k:Nat}{b:TB},l[k]? =some b->b=.none\/(∃e s,b=.own e s/\(m[k]? =some (.own e s)\/m[k]? =none))\/(∃a c,b=.cells a/\m[k]? =some (.cells c)/\kF a c)\/(m[k]? =some b/\(∀l,b≠.cells l)/\∀e s,b≠.own e s):=by
 induction h with
 |nil=>intro k b hb;simp at hb
 |none _ ih=>
  intro k b hb;cases k with
  |zero=>simp only[bY,aB]at hb;exact .inl hb.symm
  |succ k=>simpa using ih (k:=k) (by simpa using hb)
 |own _ ih=>
  intro k b hb;cases k with
  |zero=>simp only[bY,aB]at hb;subst hb;exact .inr (.inl ⟨_,_,rfl,.inl rfl⟩)
  |succ k=>simpa using ih (k:=k) (by simpa using hb)
 |new _ ih=>
  intro k b hb;cases k with
  |zero=>simp only[bY,aB]at hb;subst hb;exact .inr (.inl ⟨_,_,rfl,.inr rfl⟩)
  |succ k=>simpa using ih (k:=k) (by simpa using hb)
 |cells hl _ ih=>
  intro k b hb;cases k with
  |zero=>simp only[bY,aB]at hb;subst hb;exact .inr (.inr (.inl ⟨_,_,rfl,rfl,hl⟩))
  |succ k=>simpa using ih (k:=k) (by simpa using hb)
 |map _ ih=>
  intro k b hb;cases k with
  |zero=>simp only[bY,aB]at hb;subst hb;exact .inr (.inr (.inr ⟨rfl,by simp,by simp⟩))
  |succ k=>simpa using ih (k:=k) (by simpa using hb)
 |rows _ ih=>
  intro k b hb;cases k with
  |zero=>simp only[bY,aB]at hb;subst hb;exact .inr (.inr (.inr ⟨rfl,by simp,by simp⟩))
  |succ k=>simpa using ih (k:=k) (by simpa using hb)
 |loop _ ih=>
  intro k b hb;cases k with
  |zero=>simp only[bY,aB]at hb;subst hb;exact .inr (.inr (.inr ⟨rfl,by simp,by simp⟩))
  |succ k=>simpa using ih (k:=k) (by simpa using hb)
theorem A3{k:Nat}{a:List TV}:∀{tS:List TB}{j:Nat},tS[j]? =some (.cells a)->k∈eW a->k∈oA tS
 |[],_,h,_=>by simp at h
 |b::l,0,h,hk=>by simp only[bY,aB]at h;subst h;simp[oA,hk]
 |b::l,j+1,h,hk=>by have:=A3 (tS:=l) (j:=j) (by simpa using h) hk;cases b<;>simp[oA,this]
theorem zw(h:bT ι te tS env S)(hl:kF mI te)(hb:Ck iM tS)(nY:okB mI iM=true)(hB:oE B iM):∃ι1,bT ι1 mI iM env S/\Fr B ι S ι1 S/\(∀k,ι1 k=if lX iM k then ι k else none):=by
 simp only[okB,oV,aC,aX]at nY;refine⟨λk=>if lX iM k then ι k else none,⟨?_,λk l hk=>?_,λk e s hk t ht=>?_,λk k' hk=>?_,λi j k' hi hj=>?_,λk b hk t ht=>?_⟩,⟨λ_ _ _=>rfl,λk k' hk=>?_,λk hk=>?_⟩,λ_=>rfl⟩;.refine kM _ _ (λk hk=>?_) (Nd hl h.env);rw[if_pos (nY.1 k hk)]
 .rcases CU hb hk with e|⟨_,_,e,-⟩|⟨a,c,e,h1,h2⟩|⟨_,e,-⟩;.cases e
  .cases e
  rotate_left
  .exact absurd rfl (e _)
  cases e;obtain⟨k',ds,n1,n2,n3⟩:=h.cells k c h1;refine⟨k',ds,?_,n2,kM _ _ (λj hj=>?_) (Nd h2 n3)⟩
  .have:lX iM k=true:=by simp only[lX,hk]
   rw[if_pos this];exact n1
  rw[if_pos (nY.2 j (A3 hk hj))]
 .split at ht
  .rcases CU hb hk with e'|⟨_,_,e',h1⟩|⟨a,c,e',h1,h2⟩|⟨_,-,e'⟩
   rotate_left 3
   .exact absurd rfl (e' _ _)
   .cases e'
   .cases e';rcases h1 with h1|h1;.exact h.own k e s h1 t ht
    obtain⟨b,h2,-⟩:=h.ql k t ht;rw[h1]at h2;cases h2
   cases e'
  cases ht
 .split at hk
  .rename_i kK;unfold lX at kK;split at kK;.cases kK
   .cases kK
   rename_i b Tn Mv;cases hx:iM[k]? with
   |none=>exact(Mv hx).elim
   |some b=>exact⟨b,rfl,λe=>Tn (by rw[hx,e])⟩
  cases hk
 .split at hi
  .split at hj;.exact h.inj i j k' hi hj
   cases hj
  cases hi
 .split at ht
  .rcases CU hb hk with e'|⟨_,_,e',-⟩|⟨_,_,e',-⟩|⟨h1,-⟩;.subst e';trivial
   .subst e';trivial
   .subst e';trivial
   exact h.mp k _ h1 t ht
  cases ht
 .split at hk;.exact .inl ⟨k,hk⟩
  cases hk
 obtain⟨l,h1⟩:=hB k hk;have:lX iM k=true:=by cases l<;>(simp only[lq]at h1;simp only[lX,h1])
 simp only[this,if_true]
theorem zI(hb:Ck iM tS)(hB:oE B tS)(h:∀k,k∈B->lX iM k=true):oE B iM:=by
 intro k hk;have h1:=h k hk;obtain⟨l,h2⟩:=hB k hk;unfold lX at h1;split at h1;.cases h1
 .cases h1
 rename_i b Tn Mv;cases hx:iM[k]? with
 |none=>exact(Mv hx).elim
 |some b=>
  rcases CU hb hx with e|⟨_,_,e,h3⟩|⟨a,c,e,-,-⟩|⟨h3,e,-⟩;.exact(Tn (by rw[hx,e])).elim
  .rw[h2]at h3;rcases h3 with h3|h3<;>(cases l<;>cases h3)
  .exact⟨some a,by rw[e];rfl⟩
  rw[h2]at h3;cases h3;exact⟨l,rfl⟩
theorem KP(h:bT ι te tS env S):bT ι te (oy tS) env S:=by
 obtain⟨n,hn⟩:=IB tS;have hT:∀(k:Nat)(b:TB),b≠.none->(tS[k]? =some b↔(oy tS)[k]? =some b):=by
  intro k b hb
  conv=>lhs;rw[hn]
  rw[qK];split;.rfl
  rename_i hlt;rw[fI (l:=oy tS) (by omega),nK];split;.exact⟨λe=>by cases e;exact(hb rfl).elim,λe=>by cases e⟩
  exact Iff.rfl
 refine⟨h.env,λk l hk=>h.cells k l ((hT _ _ (λe=>by cases e)).2 hk),λk e s hk=>h.own k e s ((hT _ _ (λe=>by cases e)).2 hk),λk k' hk=>?_,h.inj,λk b hk t ht=>by
  cases b with
  |none=>trivial
  |_=>exact h.mp k _ ((hT _ _ (λe=>by cases e)).2 hk) t ht⟩
 obtain⟨b,h1,h2⟩:=h.ql k k' hk;exact⟨b,(hT _ _ h2).1 h1,h2⟩
theorem Ly(hB:oE B tS):oE B (oy tS):=by
 intro k hk;obtain⟨l,h1⟩:=hB k hk;obtain⟨n,hn⟩:=IB tS;refine⟨l,?_⟩;rw[hn,qK]at h1;split at h1;.exact h1
 rw[nK]at h1;split at h1;.cases l<;>cases h1
 cases h1
section
variable (P:Program) (ty:fR) (aK:bR) (call:bt) (yf:ej) (B:List Nat) (L:Nat) (fn:FuncId) (jd:Bool)
def WT(c:Code)(te:List TV)(tS:List TB)(Q:DX->List TV->List TB->Prop):Prop:=
 ∀ι env S,bT ι te tS env S->oE B tS->∃e aL S' ι' bX bN,cU P ty aK call yf L fn jd c env S=some (e,aL,S')/\bT ι' bX bN aL S'/\oE B bN/\Fr B ι S ι' S'/\Nn S.length S S'/\Q e bX bN
end
section
variable {L:Nat} {fn:FuncId} {jd:Bool} {a b c:Code} {Q Q':DX->List TV->List TB->Prop}
theorem WT.mono (h:WT P ty aK call yf B L fn jd c te tS Q)(hq:∀e te tS,Q e te tS->Q' e te tS):WT P ty aK call yf B L fn jd c te tS Q':=by intro ι env S hR hB;obtain⟨e,aL,S',ι',bX,bN,h1,h2,h3,h4,h5,h6⟩:=h ι env S hR hB;exact⟨e,aL,S',ι',bX,bN,h1,h2,h3,h4,h5,hq _ _ _ h6⟩
theorem Zs(h:Q .normal te tS):WT P ty aK call yf B L fn jd .skip te tS Q:=λι env S hR hB=>⟨.normal,env,S,ι,te,tS,rfl,hR,hB,Fr.refl _ _ _,gF _ _,h⟩
theorem VU{l:Nat}(h:Q .normal te tS):WT P ty aK call yf B L fn jd (.label l) te tS Q:=λι env S hR hB=>⟨.normal,env,S,ι,te,tS,rfl,hR,hB,Fr.refl _ _ _,gF _ _,h⟩
theorem Zv{id:Nat}(h:Q (.exit id) te tS):WT P ty aK call yf B L fn jd (.exit id) te tS Q:=λι env S hR hB=>⟨.exit id,env,S,ι,te,tS,rfl,hR,hB,Fr.refl _ _ _,gF _ _,h⟩
theorem adL(h:Q .ret te tS):WT P ty aK call yf B L fn jd .ret te tS Q:=λι env S hR hB=>⟨.ret,env,S,ι,te,tS,rfl,hR,hB,Fr.refl _ _ _,gF _ _,h⟩
theorem VP(h:WT P ty aK call yf B L fn jd c te tS Q):WT P ty aK call yf B L fn jd (.scope c) te tS Q:=λι env S hR hB=>by obtain⟨e,aL,S',ι',bX,bN,h1,h2⟩:=h ι env S hR hB;exact⟨e,aL,S',ι',bX,bN,by simp only[cU,h1],h2⟩
theorem UU(h:WT P ty aK call yf B L fn jd a te tS λe te tS=>match e with|.normal=>WT P ty aK call yf B L fn jd b te tS Q|e=>Q e te tS):WT P ty aK call yf B L fn jd (.seq a b) te tS Q:=by
 intro ι env S hR hB;obtain⟨e,aL,S',ι',bX,bN,h1,h2,h3,h4,h5,h6⟩:=h ι env S hR hB;cases e with
 |normal=>obtain⟨e,rK,xk,ι'',uk,um,k1,k2,k3,k4,k5,k6⟩:=h6 ι' aL S' h2 h3;exact⟨e,rK,xk,ι'',uk,um,by simp only[cU,h1,k1],k2,k3,h4.trans k4,uS h5 k5,k6⟩
 |exit id=>exact⟨_,aL,S',ι',bX,bN,by simp only[cU,h1],h2,h3,h4,h5,h6⟩
 |ret=>exact⟨_,aL,S',ι',bX,bN,by simp only[cU,h1],h2,h3,h4,h5,h6⟩
theorem Zw{x:Operand}{t:Bool}(hx:fK te x=some (.val (.bool t)))(h1:t=true->WT P ty aK call yf B L fn jd a te tS Q)(h2:t=false->WT P ty aK call yf B L fn jd b te tS Q):WT P ty aK call yf B L fn jd (.cond x a b) te tS Q:=by
 intro ι env S hR hB;obtain⟨d,k1,k2⟩:=bE hR.env hx;cases d<;>simp only[RT]at k2;subst k2;cases t with
 |true=>obtain⟨e,aL,S',ι',bX,bN,m1,m2⟩:=h1 rfl ι env S hR hB;exact⟨e,aL,S',ι',bX,bN,by simp only[cU,k1,m1],m2⟩
 |false=>obtain⟨e,aL,S',ι',bX,bN,m1,m2⟩:=h2 rfl ι env S hR hB;exact⟨e,aL,S',ι',bX,bN,by simp only[cU,k1,m1],m2⟩
theorem VW{id:Nat}(h:WT P ty aK call yf B L fn jd c te tS λe te tS=>match e with|.exit iT=>Q (if iT=id then .normal else .exit iT) te tS|e=>Q e te tS):WT P ty aK call yf B L fn jd (.block id c) te tS Q:=by
 intro ι env S hR hB;obtain⟨e,aL,S',ι',bX,bN,h1,h2,h3,h4,h5,h6⟩:=h ι env S hR hB;cases e with
 |normal=>exact⟨_,aL,S',ι',bX,bN,by simp only[cU,h1],h2,h3,h4,h5,h6⟩
 |exit iT=>exact⟨_,aL,S',ι',bX,bN,by simp only[cU,h1],h2,h3,h4,h5,h6⟩
 |ret=>exact⟨_,aL,S',ι',bX,bN,by simp only[cU,h1],h2,h3,h4,h5,h6⟩
theorem Zt(hl:kF mI te)(hb:Ck iM tS)(nY:okB mI iM=true)(hB:∀k,k∈B->lX iM k=true)(h:WT P ty aK call yf B L fn jd c mI iM Q):WT P ty aK call yf B L fn jd c te tS Q:=by intro ι env S hR QE;have Ye:=zI hb QE hB;obtain⟨ι1,h1,h2,-⟩:=zw hR hl hb nY Ye;obtain⟨e,aL,S',ι',bX,bN,m1,m2,m3,m4,m5⟩:=h ι1 env S h1 Ye;exact⟨e,aL,S',ι',bX,bN,m1,m2,m3,h2.trans m4,m5⟩
structure Fits (B:List Nat) (mI:List TV) (iM:List TB) (te:List TV) (tS:List TB):Prop where
 l:kF mI te
 b:Ck iM tS
 ok:okB mI iM=true
 base:∀k,k∈B->lX iM k=true
theorem VT{id:Nat}(h:WL P ty aK call yf B ops 0 te tS λte tS=>Q .normal te (oy tS)):WT P ty aK call yf B L fn jd (.region id ops false) te tS Q:=by intro ι env S hR hB;obtain⟨aL,S',ι',bX,bN,h1,h2,h3,h4,h5,h6⟩:=h ι env S hR hB;refine⟨.normal,aL,S',ι',bX,oy bN,?_,KP h2,Ly h3,h4,h5,h6⟩;rw[nG]at h1;simp only[cU,qC,aI,if_false,h1,ay]
theorem VR{id:Nat}(hd:mg ops (Region.before ops)=true)(hl:wJ P ops=false)(h:WQ P ty aK call yf ops tS 0 te λte=>Q .normal te tS):WT P ty aK call yf B L fn jd (.region id ops true) te tS Q:=by intro ι env S hR hB;obtain⟨aL,bX,h1,h2,h3⟩:=h ι env S hR;refine⟨.normal,aL,S,ι,bX,tS,?_,h2,hB,Fr.refl _ _ _,gF _ _,h3⟩;rw[nG]at h1;simp only[wJ,Bool.or_eq_false_iff]at hl;simp only[cU,qC,if_true,hd,hl.2,gn,aI,if_false,h1,ay]
theorem VV{id:Nat}(hd:mg ops (Region.before ops)=true)(hn:wJ P ops=true)(h:WD P ty aK call yf B ops 0 te (tS++List.replicate ops.size .none) [] λte tS=>Q .normal te (oy tS)):WT P ty aK call yf B L fn jd (.region id ops true) te tS Q:=by
 intro ι env S hR hB;have mP:=Pn hR ops.size ops.size;obtain⟨w,hw⟩:=MS mP;have hB':oE B (tS++List.replicate ops.size .none):=λk hk=>by obtain⟨l,h1⟩:=hB k hk;exact⟨l,by rw[ee (aA.1 h1).1];exact h1⟩
 obtain⟨aL,S',xh,ι',w',bX,bN,ft,h1,h2,-,h4,h5,h6,h7,h8,h9⟩:=h ι w env (S++List.replicate ops.size .none) S.length mP hB' hw (λj _ hj=>by rw[iI (by omega),nK,if_pos (by omega)]);refine⟨.normal,aL,S',ι',bX,oy bN,?_,KP h5,Ly h6,⟨λk' hl hno=>?_,λk k' hk=>?_,h7.base⟩,⟨?_,λj hj dm=>?_⟩,h9⟩;.rw[nG]at h1;simp only[cU,qC,if_true,hd,gn,aI,if_false,R8 hn,h1,aew h2 (by simpa using h4),ay]
 .have e:=ext_get (n:=ops.size) hl;rw[h7.rest k' (by obtain⟨b,e1,e2⟩:=hl;exact⟨b,e.trans e1,e2⟩) hno];exact e
 .refine(h7.ours k k' hk).imp (λe=>e) λSH hl=>SH ?_;obtain⟨b,e1,e2⟩:=hl;exact⟨b,(ext_get ⟨b,e1,e2⟩).trans e1,e2⟩
 .have:=h8.1;rw[bU]at this;omega
 have hlt:=(aA.1 dm).1;exact h8.2 j (λi _ _=>by omega) (by rw[ee hlt];exact dm)
end
end Go.Tv
