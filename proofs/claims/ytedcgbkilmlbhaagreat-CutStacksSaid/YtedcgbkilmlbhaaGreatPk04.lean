import Derived.Test.YtedcgbkilmlbhaaGreatPk03
namespace Go.Tv
open Go Go.Di
variable {P:Program} {ty:gb} {tt:TypeId->cJ} {ι ι' w:lp} {S S':ai} {te:cp} {env:cj} {tS:cx} {aI:b9} {call:bG} {yf:ez} {o:Oper} {aC nT:Nat} {B:cy} {r:TR} {ops:Array Oper}
def WQ(P:Program)(ty:gb)(aI:b9)(call:bG)(yf:ez)(ops:Array Oper)(tS:cx)(k:Nat)(te:cp)(Q:cp->Prop):Prop:=
 ∀ι env S,bZ ι te tS env S->∃aL cr,rF P ty aI call yf ops S (ops.toList.drop k) env=some aL/\bZ ι cr tS aL S/\Q cr
theorem Wn{k:Nat}(hk:ops.size<=k){Q:cp->Prop}(h:Q te):WQ P ty aI call yf ops tS k te Q:=by intro ι env S hR;rw[ki (by simpa using hk)];exact⟨env,te,rfl,hR,h⟩
theorem aaU{k:Nat}(ho:ops[k]? =some o)(hw:eE ops te o=some false){Q:cp->Prop}(h:WQ P ty aI call yf ops tS (k+1) (kC te o.dst R4) Q):WQ P ty aI call yf ops tS k te Q:=by intro ι env S hR;obtain⟨aL,cr,k1,k2,k3⟩:=h ι (kH env o.dst bK) S (oZ hR NW _);refine⟨aL,cr,?_,k2,k3⟩;rw[o9 ho];simp only[rF,iP hR.env hw,aK,if_false,k1]
theorem OO{ρ:Operand->Option DV}{d:DV}(hp:∃q,bX P ty tt te tS o=some q)(h:af P ty aI call yf ρ o S S.length=some (d,S)):dO P ty aI call yf ρ o S=some d:=by
 obtain⟨q,hp⟩:=hp;cases ho:o.op with
 |alloc e=>simp only[bX,ho]at hp;cases hp
 |box t x=>simp only[bX,ho]at hp;cases hp
 |store t a x=>simp only[bX,ho]at hp;cases hp
 |makeMap t x=>simp only[bX,ho]at hp;cases hp
 |makeSlice t x y=>simp only[bX,ho]at hp;cases hp
 |buildSlice t n ps=>
  have hh:ty.h o≠1:=by
   simp only[bX,ho]at hp;intro e;split at hp
   grind
   cases hp
  simp only[dO,ho,h,az]
 |mapUpdate t m k b=>simp only[bX,ho]at hp;cases hp
 |call cl=>
  obtain⟨callee,args,argTypes⟩:=cl;cases callee with
  |builtin b=>
   cases b with
   |append=>simp only[bX,ho]at hp;cases hp
   |_=>simp only[dO,ho,h,az]
  |value f=>simp only[bX,ho]at hp;cases hp
  |_=>simp only[dO,ho,h,az]
 |_=>simp only[dO,ho,h,az]
theorem Jb{k:Nat}{v:TV}{c:Prop}(ho:ops[k]? =some o)(hw:eE ops te o=some true)(hp:bX P ty tt te tS o=some (v,c))(hc:c){Q:cp->Prop}(h:WQ P ty aI call yf ops tS (k+1) (kC te o.dst v) Q):WQ P ty aI call yf ops tS k te Q:=by intro ι env S hR;obtain⟨d,h1,h2⟩:=LJ (aI:=aI) (call:=call) (yf:=yf) (aC:=S.length) hR.env hR.cells hp hc;obtain⟨aL,cr,k1,k2,k3⟩:=h ι (kH env o.dst d) S (oZ hR h2 _);refine⟨aL,cr,?_,k2,k3⟩;rw[o9 ho];simp only[rF,iP hR.env hw,if_true,OO ⟨_,hp⟩ h1,k1]
def P3(w:lp):cY->cY->Prop
 |[],[]=>True
 |f::l,g::m=>Ld w f g/\P3 w l m
 |_,_=>False
theorem EJ{w:lp}:∀{l m:cY}{i:Nat}{f:dz},P3 w l m->l[i]? =some f->∃g,m[i]? =some g/\Ld w f g
 |[],_,_,_,_,h=>by simp at h
 |_::_,[],_,_,h,_=>h.elim
 |f::l,g::m,0,f',h,hx=>by simp only[eu,aG]at hx;subst hx;exact⟨g,rfl,h.1⟩
 |f::l,g::m,i+1,f',h,hx=>by obtain⟨g',h1,h2⟩:=EJ (i:=i) h.2 (by simpa using hx);exact⟨g',by simpa using h1,h2⟩
theorem YH{w:lp}{f g f' g':dz}(hf:Ld w f f')(hg:Ld w g g')(h:f.meets g=true):f'.meets g'=true:=by
 obtain⟨fi,fw⟩:=f;obtain⟨gi,gw⟩:=g;obtain⟨fi',fw'⟩:=f';obtain⟨gi',gw'⟩:=g';obtain⟨Nr,UW⟩:=hf;obtain⟨hg1,hg2⟩:=hg;simp only[dz.meets,aD,j9]at h⊢;refine⟨h.1.imp Nr hg1,?_⟩;have h:=h.2;have ne:∀{m l:cy},(∀j∈m,∃k∈l,w j=some k)->m≠[]->(!l.isEmpty)=true:=by
  intro m l hml hm;cases m with
  |nil=>exact(hm rfl).elim
  |cons j m=>
   obtain⟨k,hk,-⟩:=hml j ae;cases l with
   |nil=>cases hk
   |cons _ _=>rfl
 cases fi' with
 |none=>
  cases gi' with
  |none=>rfl
  |some l'=>obtain⟨m,e,hm⟩:=hg2 _ rfl;simp only at e;subst e;refine ne hm ?_;rintro rfl;cases fi<;>simp at h
 |some l=>
  obtain⟨m,e,hm⟩:=UW _ rfl;simp only at e;subst e;cases gi' with
  |none=>refine ne hm ?_;rintro rfl;cases gi<;>simp at h
  |some l'=>grind
theorem afW{w:lp}{b:Array Nat}{fs ft:cY}(hf:P3 w fs ft)(h:uU b ft=true):uU b fs=true:=by
 simp only[uU,aX,tL,List.getElem?_zipIdx,ah,Prod.forall,aA]at h⊢;rintro f i ⟨i',f0,h1,rfl,rfl⟩ g j ⟨j',g0,h2,rfl,rfl⟩;obtain⟨f',k1,k2⟩:=EJ hf h1;obtain⟨g',k3,k4⟩:=EJ hf h2;have:=h f' (0+i') ⟨i',f',k1,rfl,rfl⟩ g' (0+j') ⟨j',g',k3,rfl,rfl⟩;simp only[j9,pz]at this⊢;refine this.imp (Or.imp (Or.imp id λhn=>?_) id) id;cases hm:f0.meets g0 with
 |false=>rfl
 |true=>rw[YH k2 k4 hm]at hn;cases hn
def WD(P:Program)(ty:gb)(aI:b9)(call:bG)(yf:ez)(B:cy)(ops:Array Oper)(k:Nat)(te:cp)(tS:cx)(fs:cY)(Q:cp->cx->Prop):Prop:=
 ∀ι w env S n0,bZ ι te tS env S->oT B tS->ZC ι w->(∀j,k<=j->j<ops.size->S[n0+j]? =some .none)->
  ∃aL S' xL ι' w' cr bU ft,uq P ty aI call yf ops n0 (ops.toList.drop k) k env S=some (aL,S',xL)/\P3 w' xL ft/\(∀j,(∀i,k<=i->i<ops.size->j≠n0+i)->w' j=w j)/\uU (Region.before ops) (fs++ft)=true/\
   bZ ι' cr bU aL S'/\oT B bU/\Fr B ι S ι' S'/\(S.length<=S'.length/\∀j,(∀i,k<=i->i<ops.size->j≠n0+i)->S[j]? =some .none->S'[j]? =some .none)/\Q cr bU
variable {n0T:Nat} {fs:cY}
theorem afj{k:Nat}(hk:ops.size<=k){Q:cp->cx->Prop}(hm:uU (Region.before ops) fs=true)(h:Q te tS):WD P ty aI call yf B ops k te tS fs Q:=by intro ι w env S n0 hR hB hw hn;rw[ki (by simpa using hk)];exact⟨env,S,[],ι,w,te,tS,[],rfl,trivial,λ_ _=>rfl,by simpa using hm,hR,hB,Fr.refl _ _ _,⟨ak _,λ_ _ h=>h⟩,h⟩
theorem um{k:Nat}(ho:ops[k]? =some o)(hw:eE ops te o=some true)(yP:AR tS (n0T+k)=true){Q:cp->cx->Prop}{K:TV->cp->cx->dz->Prop}(hd:Does P ty aI call yf B o (n0T+k) te tS true K)
  (h:∀v cr bU ft,K v cr bU ft->WD P ty aI call yf B ops (k+1) (kC cr o.dst v) bU (fs++[ft]) Q):WD P ty aI call yf B ops k te tS fs Q:=by
 intro ι w env S n0 hR hB hwk hn;have hsz:k<ops.size:=(aN.1 ho).1;have Se:=hn k (ak _) hsz;obtain⟨d,S',ι',w',v,cr,bU,f,ft,h1,h2,h3,h4,h5,h6,h7,h8,h9,uG,Ig,Zx⟩:=hd ι w env S (n0+k) hR hB hwk (abQ yP) (.inl Se) (λ_=>Se);obtain⟨aL,xM,xL,ι'',UI,uP,uQ,fts,k1,k2,k3,k4,k5,k6,k7,k8,k9⟩:=h v cr bU ft Zx ι' w' (kH env o.dst d) S' n0 (oZ h5 h6 _) uG h7 (λj hj AL=>Ig.2 _ ab (hn j ab AL));refine⟨aL,xM,f::xL,ι'',UI,uP,uQ,ft::fts,?_,⟨⟨h3.1,λl hl=>?_⟩,k2⟩,λj hj=>?_,?_,k5,k6,h9.trans k7,⟨bt Ig.1 k8.1,λj hj eL=>?_⟩,k9⟩;rw[o9 ho];simp only[uq,iP hR.env hw,if_true,h2 rfl,k1];obtain⟨m,e1,e2⟩:=h3.2 l hl;refine⟨m,e1,λj hj=>?_⟩;obtain⟨k',rC,e3⟩:=e2 j hj;refine⟨k',rC,?_⟩;rw[k3 j ?_];exact e3;intro i hi Np he;rcases h4 l m hl e1 j hj with rfl|⟨i',ajy⟩;omega;obtain⟨b,e4,e5⟩:=hR.live ajy;rw[he,hn i ab Np]at e4;cases e4;exact e5 rfl
 grind
 grind
 exact k8.2 j (λi hi Np=>hj i ab Np) (Ig.2 j (hj k (ak _) hsz) eL)
theorem aa1{k:Nat}(ho:ops[k]? =some o)(hw:eE ops te o=some false){Q:cp->cx->Prop}
  (h:WD P ty aI call yf B ops (k+1) (kC te o.dst R4) tS (fs++[⟨some [],false⟩]) Q):WD P ty aI call yf B ops k te tS fs Q:=by
 intro ι w env S n0 hR hB hwk hn;have hsz:k<ops.size:=(aN.1 ho).1;obtain⟨aL,xM,xL,ι'',UI,uP,uQ,fts,k1,k2,k3,k4,k5,k6,k7,k8,k9⟩:=h ι w (kH env o.dst bK) S n0 (oZ hR NW _) hB hwk (λj hj AL=>hn j ab AL);refine⟨aL,xM,⟨some [],false⟩::xL,ι'',UI,uP,uQ,⟨some [],false⟩::fts,?_,⟨⟨id,λl hl=>⟨[],rfl,λj hj=>by cases hj⟩⟩,k2⟩,λj hj=>?_,?_,k5,k6,k7,⟨k8.1,λj hj eL=>?_⟩,k9⟩;rw[o9 ho];simp only[uq,iP hR.env hw,aK,if_false,k1]
 grind
 grind
 grind
def VP(o:Oper):Bool:=
 o.guard.isNone&&match o.op with
 |.alloc _|.box .. |.store .. |.makeMap .. |.mapUpdate .. =>true
 |.call {callee:=.builtin .append,.. }=>true
 |_=>false
theorem ye:∀{l:List Oper}{env:cj},l.any VP=true->rF P ty aI call yf ops S l env=none
 |[],_,h=>ao
 |o::l,env,h=>by
  simp only[List.any_cons,j9]at h;simp only[rF];rcases h with h|h;simp only[VP,aD]at h;obtain⟨h1,h2⟩:=h;have hw:cI ops env o=true:=by unfold cI;rw[Option.isNone_iff_eq_none.1 h1]
  have hq:dO P ty aI call yf (jA env) o S=none:=by
   split at h2;rename_i ho;simp only[dO,ho]
   rename_i ho;simp only[dO,ho]
   rename_i ho;simp only[dO,ho]
   rename_i ho;simp only[dO,ho]
   rename_i ho;simp only[dO,ho]
   rename_i ho;simp only[dO,ho]
   cases h2
  simp only[hw,if_true,hq];split;split;exact ye h;rfl;exact ye h
def xu(P:Program)(ops:Array Oper):Bool:=ops.toList.any VP||ops.toList.any (Js P)
theorem TM{env:cj}(h:xu P ops=true):(if ops.toList.any (Js P)then none else rF P ty aI call yf ops S ops.toList env)=none:=by split;rfl;rename_i hp;unfold xu at h;rw[Bool.not_eq_true]at hp;rw[hp,Bool.or_false]at h;exact ye h
theorem ext_get{S:ai}{n k:Nat}(h:Lv S k):(S++List.replicate n .none)[k]? =S[k]? :=by obtain⟨b,h1,-⟩:=h;exact fI (aM.1 h1).1
theorem Qr(h:bZ ι te tS env S)(n m:Nat):bZ ι te (tS++List.replicate n .none) env (S++List.replicate m .none):=by
 have hl:∀k k',ι k=some k'->(S++List.replicate m DB.none)[k']? =S[k']? :=λk k' hk=>ext_get (h.live hk);have K:jE ι S ι (S++List.replicate m .none) λ_=>False:=λk k' _ hk=>⟨hk,ei (hl k k' hk)⟩;have hT:∀(k:Nat)(b:TB),(tS++List.replicate n TB.none)[k]? =some b->b≠.none->tS[k]? =some b:=by grind
 refine⟨bH K _ _ h.env,λk l hk=>?_,λk e s hk t ht=>?_,λk k' hk=>?_,h.inj,λk b hk t ht=>by
  rw[hl k t ht];cases b with
  |none=>trivial
  |_=>exact h.mp k _ (hT k _ hk (λe=>ar)) t ht⟩
 obtain⟨k',ds,h1,h2,h3⟩:=h.cells k l (hT k _ hk (λe=>ar));exact⟨k',ds,h1,by rw[hl k k' h1];exact h2,bH K _ _ h3⟩;obtain⟨n',h1⟩:=h.own k e s (hT k _ hk (λe=>ar)) t ht;exact⟨n',by rw[hl k t ht];exact h1⟩;obtain⟨b,h1,h2⟩:=h.qB k k' hk;exact⟨b,by rw[fI (aM.1 h1).1];exact h1,h2⟩
end Go.Tv
namespace Go.Tv
open Go Go.Di
def pW:cx->cx
 |[]=>[]
 |b::l=>match pW l,b with
  |[],.none=>[]
  |l',b=>b::l'
theorem Jc:∀tS:cx,∃n,tS=pW tS++List.replicate n .none
 |[]=>⟨0,rfl⟩
 |b::l=>by
  obtain⟨n,h⟩:=Jc l;simp only[pW];split;rename_i e;rw[e]at h;exact⟨n+1,by rw[h];rfl⟩
  grind
inductive jY:cp->cp->Prop
 |nil:jY [] []
 |unk {v:TV} {l m:cp}:jY l m->jY (.unk::l) (v::m)
 |same {v:TV} {l m:cp}:jY l m->jY (v::l) (v::m)
 |no {t:TT} {x:List t.den} {ap:Ap} {l m:cp}:jY l m->jY (.sl t x .no::l) (.sl t x ap::m)
 |stop {t:TT} {x:List t.den} {ap:Ap} {b:Bool} {l m:cp}:jY l m->jY (.sl t x (.stop b)::l) (.sl t x ap::m)
 |iT {t:TT} {g:Nat} {l m:cp}:jY l m->jY (.sl t [] (.iT g)::l) (.sl t [] .full::m)
 |ax {t:TT} {ap:Ap} {l m:cp}:jY l m->jY (.sl t [] ap::l) (.ax::m)
 |agg {a b l m:cp}:jY a b->jY l m->jY (.agg a::l) (.agg b::m)
theorem jY.refl:∀l:cp,jY l l
 |[]=>.nil
 |_::l=>.same (jY.refl l)
mutual
def refs:TV->cy
 |.sl _ _ (.iT g)=>[g]
 |.sl _ _ (.CG g)=>[g]
 |.ptr id _=>[id]
 |.mp id=>[id]
 |.so g _=>[g]
 |.sp g _ _ _=>[g]
 |.oz k _ te=>k::fE te
 |.agg l=>fE l
 |.tup l=>fE l
 |.fn _ a b=>fE a++fE b
 |_=>[]
def fE:cp->cy
 |[]=>[]
 |a::l=>refs a++fE l
end
inductive CL:cx->cx->Prop
 |nil {l:cx}:CL [] l
 |none {b:TB} {l m:cx}:CL l m->CL (.none::l) (b::m)
 |own {e s:Nat} {l m:cx}:CL l m->CL (.own e s::l) (.own e s::m)
 |new {e s:Nat} {l:cx}:CL l []->CL (.own e s::l) []
 |cells {a b:cp} {l m:cx}:jY a b->CL l m->CL (.cells a::l) (.cells b::m)
 |map {kt:TT} {c:List kt.den} {l m:cx}:CL l m->CL (.map kt c::l) (.map kt c::m)
 |rows {t:TT} {e:Nat} {c:List t.den} {z:Bool} {l m:cx}:CL l m->CL (.rows t e c z::l) (.rows t e c z::m)
 |loop {l m:cx}:CL l m->CL (.loop::l) (.loop::m)
def mE(tS:cx)(k:Nat):Bool:=
 match tS[k]? with
 |some .none|none=>false
 |_=>true
def oM:cx->cy
 |[]=>[]
 |.cells a::l=>fE a++oM l
 |_::l=>oM l
def okB(te:cp)(tS:cx):Bool:=(fE te++oM tS).all (mE tS)
variable {P:Program} {ty:gb} {tt:TypeId->cJ} {ι ι' w:lp} {S S':ai} {te mV:cp} {env:cj} {tS iS:cx} {aI:b9} {call:bG} {yf:ez} {o:Oper} {aC nT:Nat} {B:cy} {r:TR} {ops:Array Oper}
theorem Od{l m:cp}(h:jY l m):∀{ds:cj},cO ι S m ds->cO ι S l ds:=by
 induction h with
 |nil=>exact id
 |unk _ ih=>intro ds hd;obtain⟨d,m',rfl,h1,h2⟩:=aj hd;exact aR (by simp only[RT]) (ih h2)
 |same _ ih=>intro ds hd;obtain⟨d,m',rfl,h1,h2⟩:=aj hd;exact aR h1 (ih h2)
 |no _ ih=>intro ds hd;obtain⟨d,m',rfl,h1,h2⟩:=aj hd;refine aR ?_ (ih h2);cases d<;>simp only[RT]at h1⊢;exact⟨h1.1,trivial⟩
 |stop _ ih=>intro ds hd;obtain⟨d,m',rfl,h1,h2⟩:=aj hd;refine aR ?_ (ih h2);cases d<;>simp only[RT]at h1⊢;exact⟨h1.1,trivial⟩
 |iT _ ih=>intro ds hd;obtain⟨d,m',rfl,h1,h2⟩:=aj hd;refine aR ?_ (ih h2);cases d<;>simp only[RT]at h1⊢;exact⟨h1.1,.inl ⟨h1.2.1,h1.2.2,kZ h1.1⟩⟩
 |ax _ ih=>
  rename_i ap _ _ _;intro ds hd;obtain⟨d,m',rfl,h1,h2⟩:=aj hd;refine aR ?_ (ih h2);cases d<;>simp only[RT]at h1⊢;obtain⟨rfl,rfl,rfl⟩:=h1;refine⟨trivial,?_⟩;cases ap with
  |no=>trivial
  |full=>exact⟨rfl,rfl⟩
  |iT g=>exact .inl ⟨rfl,rfl,rfl⟩
  |stop b=>trivial
  |CG g=>exact .inl ⟨rfl,rfl,rfl⟩
 |agg _ _ RR Up=>intro ds hd;obtain⟨d,m',rfl,h1,h2⟩:=aj hd;refine aR ?_ (Up h2);cases d<;>simp only[RT]at h1⊢;exact RR h1
mutual
theorem abn:∀(v:TV)(d:DV),(∀k∈refs v,ι' k=ι k)->RT ι S v d->RT ι' S v d
 |.unk,_,_,_=>by simp only[RT]
 |.val _,d,_,k=>by cases d<;>simp only[RT]at k⊢;exact k
 |.ax,d,_,k=>by cases d<;>simp only[RT]at k⊢;exact k
 |.agg l,d,h,k=>by cases d<;>simp only[RT]at k⊢;exact kY l _ h k
 |.tup l,d,h,k=>by cases d<;>simp only[RT]at k⊢;exact kY l _ h k
 |.sl t l .no,d,_,k=>by cases d<;>simp only[RT]at k⊢;exact k
 |.sl t l .full,d,_,k=>by cases d<;>simp only[RT]at k⊢;exact k
 |.sl t l (.stop _),d,_,k=>by cases d<;>simp only[RT]at k⊢;exact k
 |.sl t l (.CG g),d,h,k=>by cases d<;>simp only[RT,pU]at k⊢;rw[h g (by simp[refs])];exact k
 |.sl t l (.iT g),d,h,k=>by cases d<;>simp only[RT,pU]at k⊢;rw[h g (by simp[refs])];exact k
 |.ptr id off,d,h,k=>by cases d<;>simp only[RT]at k⊢;rw[h id (by simp[refs])];exact k
 |.fM t l i off,d,_,k=>by cases d<;>simp only[RT]at k⊢;exact k
 |.mp id,d,h,k=>by cases d<;>simp only[RT]at k⊢;rw[h id (by simp[refs])];exact k
 |.so g t,d,h,k=>by cases d<;>simp only[RT]at k⊢;rw[h g (by simp[refs])];exact k
 |.oz k0 fn te,d,h,k=>by cases d<;>simp only[RT]at k⊢;obtain⟨k1,ps,a,b,env,BS,k4,k2,k3⟩:=k;exact⟨(h k0 (by simp[refs])).trans k1,ps,a,b,env,BS,k4,k2,kY te env (λj hj=>h j (by simp[refs,hj])) k3⟩
 |.sp g t i off,d,h,k=>by cases d<;>simp only[RT]at k⊢;rw[h g (by simp[refs])];exact k
 |.fn f a b,d,h,k=>by cases d<;>simp only[RT]at k⊢;exact⟨k.1,kY a _ (λj hj=>h j (by simp[refs,hj])) k.2.1,kY b _ (λj hj=>h j (by simp[refs,hj])) k.2.2⟩
theorem kY:∀(l:cp)(m:cj),(∀k∈fE l,ι' k=ι k)->cO ι S l m->cO ι' S l m
 |[],m,_,k=>by rw[aQ k];exact bS
 |a::l,m,h,k=>by obtain⟨d,m',rfl,h1,h2⟩:=aj k;exact aR (abn a d (λj hj=>h j (by simp[fE,hj])) h1) (kY l m' (λj hj=>h j (by simp[fE,hj])) h2)
end
theorem Dh{l m:cx}(h:CL l m):∀{k:Nat}{b:TB},l[k]? =some b->b=.none\/(∃e s,b=.own e s/\(m[k]? =some (.own e s)\/m[k]? =none))\/(∃a c,b=.cells a/\m[k]? =some (.cells c)/\jY a c)\/(m[k]? =some b/\(∀l,b≠.cells l)/\∀e s,b≠.own e s):=by
 induction h with
 |nil=>intro k b hb;simp at hb
 |none _ ih=>grind
 |own _ ih=>grind
 |new _ ih=>grind
 |cells hl _ ih=>grind
 |map _ ih=>grind
 |rows _ ih=>grind
 |loop _ ih=>grind
theorem Bw{k:Nat}{a:cp}:∀{tS:cx}{j:Nat},tS[j]? =some (.cells a)->k∈fE a->k∈oM tS
 |[],_,h,_=>by simp at h
 |b::l,0,h,hk=>by simp only[eu,aG]at h;subst h;simp[oM,hk]
 |b::l,j+1,h,hk=>by have:=Bw (tS:=l) (j:=j) (by simpa using h) hk;cases b<;>simp[oM,this]
theorem zW(h:bZ ι te tS env S)(hl:jY mV te)(hb:CL iS tS)(kB:okB mV iS=true)(hB:oT B iS):∃ι1,bZ ι1 mV iS env S/\Fr B ι S ι1 S/\(∀k,ι1 k=if mE iS k then ι k else none):=by
 simp only[okB,qZ,aD,aX]at kB;refine⟨λk=>if mE iS k then ι k else none,⟨?_,λk l hk=>?_,λk e s hk t ht=>?_,λk k' hk=>?_,λi j k' hi hj=>?_,λk b hk t ht=>?_⟩,⟨λ_ _ _=>rfl,λk k' hk=>?_,λk hk=>?_⟩,λ_=>rfl⟩;refine kY _ _ (λk hk=>?_) (Od hl h.env);rw[if_pos (kB.1 k hk)]
 .rcases Dh hb hk with e|⟨_,_,e,-⟩|⟨a,c,e,h1,h2⟩|⟨_,e,-⟩;cases e;cases e
  rotate_left
  grind
  cases e;obtain⟨k',ds,n1,n2,n3⟩:=h.cells k c h1;refine⟨k',ds,?_,n2,kY _ _ (λj hj=>?_) (Od h2 n3)⟩;have:mE iS k=true:=by simp only[mE,hk]
  rw[if_pos this];exact n1
  rw[if_pos (kB.2 j (Bw hk hj))]
 .split at ht
  .rcases Dh hb hk with e'|⟨_,_,e',h1⟩|⟨a,c,e',h1,h2⟩|⟨_,-,e'⟩
   rotate_left 3
   grind
   cases e';cases e';rcases h1 with h1|h1;exact h.own k e s h1 t ht;obtain⟨b,h2,-⟩:=h.qB k t ht;rw[h1]at h2;cases h2
   cases e'
  cases ht
 split at hk;rename_i oq;unfold mE at oq;split at oq
 grind
 grind
 grind
 cases hk;split at hi;split at hj;exact h.inj i j k' hi hj;cases hj;cases hi;split at ht;rcases Dh hb hk with e'|⟨_,_,e',-⟩|⟨_,_,e',-⟩|⟨h1,-⟩;subst e';trivial
 subst e';trivial
 subst e';trivial
 exact h.mp k _ h1 t ht;cases ht
 grind
 obtain⟨l,h1⟩:=hB k hk;have:mE iS k=true:=by cases l<;>(simp only[lI]at h1;simp only[mE,h1])
 simp only[this,if_true]
theorem Ag(hb:CL iS tS)(hB:oT B tS)(h:∀k,k∈B->mE iS k=true):oT B iS:=by
 intro k hk;have h1:=h k hk;obtain⟨l,h2⟩:=hB k hk;unfold mE at h1;split at h1;cases h1;cases h1;rename_i b hb1 Ku;cases hx:iS[k]? with
 |none=>exact(Ku hx).elim
 |some b=>
  rcases Dh hb hx with e|⟨_,_,e,h3⟩|⟨a,c,e,-,-⟩|⟨h3,e,-⟩
  grind
  grind
  exact⟨some a,by rw[e];rfl⟩
  grind
theorem LD(h:bZ ι te tS env S):bZ ι te (pW tS) env S:=by
 obtain⟨n,hn⟩:=Jc tS;have hT:∀(k:Nat)(b:TB),b≠.none->(tS[k]? =some b↔(pW tS)[k]? =some b):=by grind
 refine⟨h.env,λk l hk=>h.cells k l ((hT _ _ (λe=>ar)).2 hk),λk e s hk=>h.own k e s ((hT _ _ (λe=>ar)).2 hk),λk k' hk=>?_,h.inj,λk b hk t ht=>by
  cases b with
  |none=>trivial
  |_=>exact h.mp k _ ((hT _ _ (λe=>ar)).2 hk) t ht⟩
 obtain⟨b,h1,h2⟩:=h.qB k k' hk;exact⟨b,(hT _ _ h2).1 h1,h2⟩
theorem My(hB:oT B tS):oT B (pW tS):=by intro k hk;obtain⟨l,h1⟩:=hB k hk;obtain⟨n,hn⟩:=Jc tS;refine⟨l,?_⟩;rw[hn,RL]at h1;split at h1;exact h1;rw[zN]at h1;split at h1;cases l<;>cases h1;cases h1
section
variable (P:Program) (ty:gb) (aI:b9) (call:bG) (yf:ez) (B:cy) (L:Nat) (fn:FuncId) (jg:Bool)
def WT(c:Code)(te:cp)(tS:cx)(Q:DX->cp->cx->Prop):Prop:=
 ∀ι env S,bZ ι te tS env S->oT B tS->∃e aL S' ι' cr bU,de P ty aI call yf L fn jg c env S=some (e,aL,S')/\bZ ι' cr bU aL S'/\oT B bU/\Fr B ι S ι' S'/\Nn S.length S S'/\Q e cr bU
end
section
variable {L:Nat} {fn:FuncId} {jg:Bool} {a b c:Code} {Q Q':DX->cp->cx->Prop}
theorem WT.mono (h:WT P ty aI call yf B L fn jg c te tS Q)(hq:∀e te tS,Q e te tS->Q' e te tS):WT P ty aI call yf B L fn jg c te tS Q':=by intro ι env S hR hB;obtain⟨e,aL,S',ι',cr,bU,h1,h2,h3,h4,h5,h6⟩:=h ι env S hR hB;exact⟨e,aL,S',ι',cr,bU,h1,h2,h3,h4,h5,hq _ _ _ h6⟩
theorem aaP(h:Q .normal te tS):WT P ty aI call yf B L fn jg .skip te tS Q:=λι env S hR hB=>⟨.normal,env,S,ι,te,tS,rfl,hR,hB,Fr.refl _ _ _,gA _ _,h⟩
theorem Xr{l:Nat}(h:Q .normal te tS):WT P ty aI call yf B L fn jg (.label l) te tS Q:=λι env S hR hB=>⟨.normal,env,S,ι,te,tS,rfl,hR,hB,Fr.refl _ _ _,gA _ _,h⟩
theorem aaS{id:Nat}(h:Q (.exit id) te tS):WT P ty aI call yf B L fn jg (.exit id) te tS Q:=λι env S hR hB=>⟨.exit id,env,S,ι,te,tS,rfl,hR,hB,Fr.refl _ _ _,gA _ _,h⟩
theorem afa(h:Q .ret te tS):WT P ty aI call yf B L fn jg .ret te tS Q:=λι env S hR hB=>⟨.ret,env,S,ι,te,tS,rfl,hR,hB,Fr.refl _ _ _,gA _ _,h⟩
theorem Xm(h:WT P ty aI call yf B L fn jg c te tS Q):WT P ty aI call yf B L fn jg (.scope c) te tS Q:=λι env S hR hB=>by obtain⟨e,aL,S',ι',cr,bU,h1,h2⟩:=h ι env S hR hB;exact⟨e,aL,S',ι',cr,bU,by simp only[de,h1],h2⟩
theorem Wm(h:WT P ty aI call yf B L fn jg a te tS λe te tS=>match e with|.normal=>WT P ty aI call yf B L fn jg b te tS Q|e=>Q e te tS):WT P ty aI call yf B L fn jg (.seq a b) te tS Q:=by
 intro ι env S hR hB;obtain⟨e,aL,S',ι',cr,bU,h1,h2,h3,h4,h5,h6⟩:=h ι env S hR hB;cases e with
 |normal=>obtain⟨e,rZ,xM,ι'',uP,uQ,k1,k2,k3,k4,k5,k6⟩:=h6 ι' aL S' h2 h3;exact⟨e,rZ,xM,ι'',uP,uQ,by simp only[de,h1,k1],k2,k3,h4.trans k4,vz h5 k5,k6⟩
 |exit id=>exact⟨_,aL,S',ι',cr,bU,by simp only[de,h1],h2,h3,h4,h5,h6⟩
 |ret=>exact⟨_,aL,S',ι',cr,bU,by simp only[de,h1],h2,h3,h4,h5,h6⟩
theorem aaT{x:Operand}{t:Bool}(hx:fT te x=some (.val (.bool t)))(h1:t=true->WT P ty aI call yf B L fn jg a te tS Q)(h2:t=false->WT P ty aI call yf B L fn jg b te tS Q):WT P ty aI call yf B L fn jg (.cond x a b) te tS Q:=by
 intro ι env S hR hB;obtain⟨d,k1,k2⟩:=bL hR.env hx;cases d<;>simp only[RT]at k2;subst k2;cases t with
 |true=>obtain⟨e,aL,S',ι',cr,bU,m1,m2⟩:=h1 rfl ι env S hR hB;exact⟨e,aL,S',ι',cr,bU,by simp only[de,k1,m1],m2⟩
 |false=>obtain⟨e,aL,S',ι',cr,bU,m1,m2⟩:=h2 rfl ι env S hR hB;exact⟨e,aL,S',ι',cr,bU,by simp only[de,k1,m1],m2⟩
theorem Xt{id:Nat}(h:WT P ty aI call yf B L fn jg c te tS λe te tS=>match e with|.exit jf=>Q (if jf=id then .normal else .exit jf) te tS|e=>Q e te tS):WT P ty aI call yf B L fn jg (.block id c) te tS Q:=by
 intro ι env S hR hB;obtain⟨e,aL,S',ι',cr,bU,h1,h2,h3,h4,h5,h6⟩:=h ι env S hR hB;cases e with
 |normal=>exact⟨_,aL,S',ι',cr,bU,by simp only[de,h1],h2,h3,h4,h5,h6⟩
 |exit jf=>exact⟨_,aL,S',ι',cr,bU,by simp only[de,h1],h2,h3,h4,h5,h6⟩
 |ret=>exact⟨_,aL,S',ι',cr,bU,by simp only[de,h1],h2,h3,h4,h5,h6⟩
theorem aaQ(hl:jY mV te)(hb:CL iS tS)(kB:okB mV iS=true)(hB:∀k,k∈B->mE iS k=true)(h:WT P ty aI call yf B L fn jg c mV iS Q):WT P ty aI call yf B L fn jg c te tS Q:=by intro ι env S hR R1;have Zw:=Ag hb R1 hB;obtain⟨ι1,h1,h2,-⟩:=zW hR hl hb kB Zw;obtain⟨e,aL,S',ι',cr,bU,m1,m2,m3,m4,m5⟩:=h ι1 env S h1 Zw;exact⟨e,aL,S',ι',cr,bU,m1,m2,m3,h2.trans m4,m5⟩
structure Fits (B:cy) (mV:cp) (iS:cx) (te:cp) (tS:cx):Prop where
 l:jY mV te
 b:CL iS tS
 ok:okB mV iS=true
 base:∀k,k∈B->mE iS k=true
theorem Xq{id:Nat}(h:WL P ty aI call yf B ops 0 te tS λte tS=>Q .normal te (pW tS)):WT P ty aI call yf B L fn jg (.region id ops false) te tS Q:=by intro ι env S hR hB;obtain⟨aL,S',ι',cr,bU,h1,h2,h3,h4,h5,h6⟩:=h ι env S hR hB;refine⟨.normal,aL,S',ι',cr,pW bU,?_,LD h2,My h3,h4,h5,h6⟩;rw[pn]at h1;simp only[de,qT,aK,if_false,h1,az]
theorem Xo{id:Nat}(hd:mJ ops (Region.before ops)=true)(hl:xu P ops=false)(h:WQ P ty aI call yf ops tS 0 te λte=>Q .normal te tS):WT P ty aI call yf B L fn jg (.region id ops true) te tS Q:=by intro ι env S hR hB;obtain⟨aL,cr,h1,h2,h3⟩:=h ι env S hR;refine⟨.normal,aL,S,ι,cr,tS,?_,h2,hB,Fr.refl _ _ _,gA _ _,h3⟩;rw[pn]at h1;simp only[xu,Bool.or_eq_false_iff]at hl;simp only[de,qT,if_true,hd,hl.2,gQ,aK,if_false,h1,az]
theorem Xs{id:Nat}(hd:mJ ops (Region.before ops)=true)(hn:xu P ops=true)(h:WD P ty aI call yf B ops 0 te (tS++List.replicate ops.size .none) [] λte tS=>Q .normal te (pW tS)):WT P ty aI call yf B L fn jg (.region id ops true) te tS Q:=by
 intro ι env S hR hB;have mY:=Qr hR ops.size ops.size;obtain⟨w,hw⟩:=NT mY;have hB':oT B (tS++List.replicate ops.size .none):=λk hk=>by obtain⟨l,h1⟩:=hB k hk;exact⟨l,by rw[fI (aM.1 h1).1];exact h1⟩
 obtain⟨aL,S',xL,ι',w',cr,bU,ft,h1,h2,-,h4,h5,h6,h7,h8,h9⟩:=h ι w env (S++List.replicate ops.size .none) S.length mY hB' hw (λj _ hj=>by rw[jr ab,zN,if_pos ab]);refine⟨.normal,aL,S',ι',cr,pW bU,?_,LD h5,My h6,⟨λk' hl hno=>?_,λk k' hk=>?_,h7.base⟩,⟨?_,λj hj eL=>?_⟩,h9⟩;rw[pn]at h1;simp only[de,qT,if_true,hd,gQ,aK,if_false,TM hn,h1,afW h2 (by simpa using h4),az];have e:=ext_get (n:=ops.size) hl;rw[h7.rest k' (by obtain⟨b,e1,e2⟩:=hl;exact⟨b,e.trans e1,e2⟩) hno];exact e;refine(h7.ours k k' hk).imp (λe=>e) λZW hl=>ZW ?_;obtain⟨b,e1,e2⟩:=hl;exact⟨b,(ext_get ⟨b,e1,e2⟩).trans e1,e2⟩
 grind
 grind
end
end Go.Tv
