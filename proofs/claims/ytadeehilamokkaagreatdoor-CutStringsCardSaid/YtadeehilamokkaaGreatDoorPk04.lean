import Derived.Test.YtadeehilamokkaaGreatDoorPk03
namespace Go.Tv
open Go Go.Di
variable {P:Program} {ty:fo} {tt:TypeId->cJ} {ι ι' w:kW} {S S':aj} {te:cp} {env:cn} {tS:cx} {aD:bT} {call:bg} {yf:dx} {o:Oper} {aB nT:Nat} {B:cy} {r:TR} {ops:Array Oper}
def WQ(P:Program)(ty:fo)(aD:bT)(call:bg)(yf:dx)(ops:Array Oper)(tS:cx)(k:Nat)(te:cp)(Q:cp->Prop):Prop:=
 ∀ι env S,bO ι te tS env S->∃aL bS,qI P ty aD call yf ops S (ops.toList.drop k) env=some aL/\bO ι bS tS aL S/\Q bS
theorem Wm{k:Nat}(hk:ops.size<=k){Q:cp->Prop}(h:Q te):WQ P ty aD call yf ops tS k te Q:=by intro ι env S hR;rw[hU (by simpa using hk)];exact⟨env,te,rfl,hR,h⟩
theorem aaU{k:Nat}(ho:ops[k]? =some o)(hw:dN ops te o=some false){Q:cp->Prop}(h:WQ P ty aD call yf ops tS (k+1) (jV te o.dst RI) Q):WQ P ty aD call yf ops tS k te Q:=by intro ι env S hR;obtain⟨aL,bS,k1,k2,k3⟩:=h ι (j4 env o.dst bD) S (oA hR Nz _);refine⟨aL,bS,?_,k2,k3⟩;rw[oE ho];simp only[qI,ia hR.env hw,aJ,if_false,k1]
theorem Ov{ρ:Operand->Option DV}{d:DV}(hp:∃q,bI P ty tt te tS o=some q)(h:ah P ty aD call yf ρ o S S.length=some (d,S)):de P ty aD call yf ρ o S=some d:=by
 obtain⟨q,hp⟩:=hp;cases ho:o.op with
 |alloc e=>simp only[bI,ho]at hp;cases hp
 |box t x=>simp only[bI,ho]at hp;cases hp
 |store t a x=>simp only[bI,ho]at hp;cases hp
 |makeMap t x=>simp only[bI,ho]at hp;cases hp
 |makeSlice t x y=>simp only[bI,ho]at hp;cases hp
 |buildSlice t n ps=>
  have hh:ty.h o≠1:=by
   simp only[bI,ho]at hp;intro e;split at hp
   grind
   cases hp
  simp only[de,ho,h,ay]
 |mapUpdate t m k b=>simp only[bI,ho]at hp;cases hp
 |call cl=>
  obtain⟨callee,args,argTypes⟩:=cl;cases callee with
  |builtin b=>
   cases b with
   |append=>simp only[bI,ho]at hp;cases hp
   |_=>simp only[de,ho,h,ay]
  |value f=>simp only[bI,ho]at hp;cases hp
  |_=>simp only[de,ho,h,ay]
 |_=>simp only[de,ho,h,ay]
theorem IQ{k:Nat}{v:TV}{c:Prop}(ho:ops[k]? =some o)(hw:dN ops te o=some true)(hp:bI P ty tt te tS o=some (v,c))(hc:c){Q:cp->Prop}(h:WQ P ty aD call yf ops tS (k+1) (jV te o.dst v) Q):WQ P ty aD call yf ops tS k te Q:=by intro ι env S hR;obtain⟨d,h1,h2⟩:=Lf (aD:=aD) (call:=call) (yf:=yf) (aB:=S.length) hR.env hR.cells hp hc;obtain⟨aL,bS,k1,k2,k3⟩:=h ι (j4 env o.dst d) S (oA hR h2 _);refine⟨aL,bS,?_,k2,k3⟩;rw[oE ho];simp only[qI,ia hR.env hw,if_true,Ov ⟨_,hp⟩ h1,k1]
def PY(w:kW):cY->cY->Prop
 |[],[]=>True
 |f::l,g::m=>KI w f g/\PY w l m
 |_,_=>False
theorem Ez{w:kW}:∀{l m:cY}{i:Nat}{f:cQ},PY w l m->l[i]? =some f->∃g,m[i]? =some g/\KI w f g
 |[],_,_,_,_,h=>by simp at h
 |_::_,[],_,_,h,_=>h.elim
 |f::l,g::m,0,f',h,hx=>by simp only[dH,aF]at hx;subst hx;exact⟨g,rfl,h.1⟩
 |f::l,g::m,i+1,f',h,hx=>by obtain⟨g',h1,h2⟩:=Ez (i:=i) h.2 (by simpa using hx);exact⟨g',by simpa using h1,h2⟩
theorem YD{w:kW}{f g f' g':cQ}(hf:KI w f f')(hg:KI w g g')(h:f.meets g=true):f'.meets g'=true:=by
 obtain⟨fi,fw⟩:=f;obtain⟨gi,gw⟩:=g;obtain⟨fi',fw'⟩:=f';obtain⟨gi',gw'⟩:=g';obtain⟨UU,ZX⟩:=hf;obtain⟨Zr,hg2⟩:=hg;simp only[cQ.meets,aC,jK]at h⊢;refine⟨h.1.imp UU Zr,?_⟩;have h:=h.2;have ne:∀{m l:cy},(∀j∈m,∃k∈l,w j=some k)->m≠[]->(!l.isEmpty)=true:=by
  intro m l hml hm;cases m with
  |nil=>exact(hm rfl).elim
  |cons j m=>
   obtain⟨k,hk,-⟩:=hml j ae;cases l with
   |nil=>cases hk
   |cons _ _=>rfl
 cases fi' with
 |none=>
  cases gi' with
  |none=>rfl
  |some l'=>obtain⟨m,e,hm⟩:=hg2 _ rfl;simp only at e;subst e;refine ne hm ?_;rintro rfl;cases fi<;>simp at h
 |some l=>
  obtain⟨m,e,hm⟩:=ZX _ rfl;simp only at e;subst e;cases gi' with
  |none=>refine ne hm ?_;rintro rfl;cases gi<;>simp at h
  |some l'=>grind
theorem afh{w:kW}{b:Array Nat}{fs ft:cY}(hf:PY w fs ft)(h:tR b ft=true):tR b fs=true:=by
 simp only[tR,aU,sG,List.getElem?_zipIdx,af,Prod.forall,az]at h⊢;rintro f i ⟨i',f0,h1,rfl,rfl⟩ g j ⟨j',g0,h2,rfl,rfl⟩;obtain⟨f',k1,k2⟩:=Ez hf h1;obtain⟨g',k3,k4⟩:=Ez hf h2;have:=h f' (0+i') ⟨i',f',k1,rfl,rfl⟩ g' (0+j') ⟨j',g',k3,rfl,rfl⟩;simp only[jK,oH]at this⊢;refine this.imp (Or.imp (Or.imp id λhn=>?_) id) id;cases hm:f0.meets g0 with
 |false=>rfl
 |true=>rw[YD k2 k4 hm]at hn;cases hn
def WD(P:Program)(ty:fo)(aD:bT)(call:bg)(yf:dx)(B:cy)(ops:Array Oper)(k:Nat)(te:cp)(tS:cx)(fs:cY)(Q:cp->cx->Prop):Prop:=
 ∀ι w env S n0,bO ι te tS env S->oy B tS->Zx ι w->(∀j,k<=j->j<ops.size->S[n0+j]? =some .none)->
  ∃aL S' xe ι' w' bS bK ft,s5 P ty aD call yf ops n0 (ops.toList.drop k) k env S=some (aL,S',xe)/\PY w' xe ft/\(∀j,(∀i,k<=i->i<ops.size->j≠n0+i)->w' j=w j)/\tR (Region.before ops) (fs++ft)=true/\
   bO ι' bS bK aL S'/\oy B bK/\Fr B ι S ι' S'/\(S.length<=S'.length/\∀j,(∀i,k<=i->i<ops.size->j≠n0+i)->S[j]? =some .none->S'[j]? =some .none)/\Q bS bK
variable {n0T:Nat} {fs:cY}
theorem aeH{k:Nat}(hk:ops.size<=k){Q:cp->cx->Prop}(hm:tR (Region.before ops) fs=true)(h:Q te tS):WD P ty aD call yf B ops k te tS fs Q:=by intro ι w env S n0 hR hB hw hn;rw[hU (by simpa using hk)];exact⟨env,S,[],ι,w,te,tS,[],rfl,trivial,λ_ _=>rfl,by simpa using hm,hR,hB,Fr.refl _ _ _,⟨ai _,λ_ _ h=>h⟩,h⟩
theorem sZ{k:Nat}(ho:ops[k]? =some o)(hw:dN ops te o=some true)(ye:Ak tS (n0T+k)=true){Q:cp->cx->Prop}{K:TV->cp->cx->cQ->Prop}(hd:Does P ty aD call yf B o (n0T+k) te tS true K)
  (h:∀v bS bK ft,K v bS bK ft->WD P ty aD call yf B ops (k+1) (jV bS o.dst v) bK (fs++[ft]) Q):WD P ty aD call yf B ops k te tS fs Q:=by
 intro ι w env S n0 hR hB hwk hn;have hsz:k<ops.size:=(aG.1 ho).1;have RR:=hn k (ai _) hsz;obtain⟨d,S',ι',w',v,bS,bK,f,ft,h1,h2,h3,h4,h5,h6,h7,h8,h9,wz,Ge,U0⟩:=hd ι w env S (n0+k) hR hB hwk (abH ye) (.inl RR) (λ_=>RR);obtain⟨aL,xh,xe,ι'',UE,tK,tL,fts,k1,k2,k3,k4,k5,k6,k7,k8,k9⟩:=h v bS bK ft U0 ι' w' (j4 env o.dst d) S' n0 (oA h5 h6 _) wz h7 (λj hj CM=>Ge.2 _ ab (hn j ab CM));refine⟨aL,xh,f::xe,ι'',UE,tK,tL,ft::fts,?_,⟨⟨h3.1,λl hl=>?_⟩,k2⟩,λj hj=>?_,?_,k5,k6,h9.trans k7,⟨bt Ge.1 k8.1,λj hj dU=>?_⟩,k9⟩;rw[oE ho];simp only[s5,ia hR.env hw,if_true,h2 rfl,k1];obtain⟨m,e1,e2⟩:=h3.2 l hl;refine⟨m,e1,λj hj=>?_⟩;obtain⟨k',oT,e3⟩:=e2 j hj;refine⟨k',oT,?_⟩;rw[k3 j ?_];exact e3;intro i hi RA he;rcases h4 l m hl e1 j hj with rfl|⟨i',ajo⟩;omega;obtain⟨b,e4,e5⟩:=hR.live ajo;rw[he,hn i ab RA]at e4;cases e4;exact e5 rfl
 grind
 grind
 exact k8.2 j (λi hi RA=>hj i ab RA) (Ge.2 j (hj k (ai _) hsz) dU)
theorem aa1{k:Nat}(ho:ops[k]? =some o)(hw:dN ops te o=some false){Q:cp->cx->Prop}
  (h:WD P ty aD call yf B ops (k+1) (jV te o.dst RI) tS (fs++[⟨some [],false⟩]) Q):WD P ty aD call yf B ops k te tS fs Q:=by
 intro ι w env S n0 hR hB hwk hn;have hsz:k<ops.size:=(aG.1 ho).1;obtain⟨aL,xh,xe,ι'',UE,tK,tL,fts,k1,k2,k3,k4,k5,k6,k7,k8,k9⟩:=h ι w (j4 env o.dst bD) S n0 (oA hR Nz _) hB hwk (λj hj CM=>hn j ab CM);refine⟨aL,xh,⟨some [],false⟩::xe,ι'',UE,tK,tL,⟨some [],false⟩::fts,?_,⟨⟨id,λl hl=>⟨[],rfl,λj hj=>by cases hj⟩⟩,k2⟩,λj hj=>?_,?_,k5,k6,k7,⟨k8.1,λj hj dU=>?_⟩,k9⟩;rw[oE ho];simp only[s5,ia hR.env hw,aJ,if_false,k1]
 grind
 grind
 grind
def VP(o:Oper):Bool:=
 o.guard.isNone&&match o.op with
 |.alloc _|.box .. |.store .. |.makeMap .. |.mapUpdate .. =>true
 |.call {callee:=.builtin .append,.. }=>true
 |_=>false
theorem xE:∀{l:List Oper}{env:cn},l.any VP=true->qI P ty aD call yf ops S l env=none
 |[],_,h=>ar
 |o::l,env,h=>by
  simp only[List.any_cons,jK]at h;simp only[qI];rcases h with h|h;simp only[VP,aC]at h;obtain⟨h1,h2⟩:=h;have hw:cv ops env o=true:=by unfold cv;rw[Option.isNone_iff_eq_none.1 h1]
  have hq:de P ty aD call yf (ir env) o S=none:=by
   split at h2;rename_i ho;simp only[de,ho]
   rename_i ho;simp only[de,ho]
   rename_i ho;simp only[de,ho]
   rename_i ho;simp only[de,ho]
   rename_i ho;simp only[de,ho]
   rename_i ho;simp only[de,ho]
   cases h2
  simp only[hw,if_true,hq];split;split;exact xE h;rfl;exact xE h
def wI(P:Program)(ops:Array Oper):Bool:=ops.toList.any VP||ops.toList.any (Ja P)
theorem TP{env:cn}(h:wI P ops=true):(if ops.toList.any (Ja P)then none else qI P ty aD call yf ops S ops.toList env)=none:=by split;rfl;rename_i hp;unfold wI at h;rw[Bool.not_eq_true]at hp;rw[hp,Bool.or_false]at h;exact xE h
theorem ext_get{S:aj}{n k:Nat}(h:Lv S k):(S++List.replicate n .none)[k]? =S[k]? :=by obtain⟨b,h1,-⟩:=h;exact eD (aI.1 h1).1
theorem Qp(h:bO ι te tS env S)(n m:Nat):bO ι te (tS++List.replicate n .none) env (S++List.replicate m .none):=by
 have hl:∀k k',ι k=some k'->(S++List.replicate m DB.none)[k']? =S[k']? :=λk k' hk=>ext_get (h.live hk);have K:iY ι S ι (S++List.replicate m .none) λ_=>False:=λk k' _ hk=>⟨hk,dz (hl k k' hk)⟩;have hT:∀(k:Nat)(b:TB),(tS++List.replicate n TB.none)[k]? =some b->b≠.none->tS[k]? =some b:=by grind
 refine⟨bn K _ _ h.env,λk l hk=>?_,λk e s hk t ht=>?_,λk k' hk=>?_,h.inj,λk b hk t ht=>by
  rw[hl k t ht];cases b with
  |none=>trivial
  |_=>exact h.mp k _ (hT k _ hk (λe=>aE)) t ht⟩
 obtain⟨k',ds,h1,h2,h3⟩:=h.cells k l (hT k _ hk (λe=>aE));exact⟨k',ds,h1,by rw[hl k k' h1];exact h2,bn K _ _ h3⟩;obtain⟨n',h1⟩:=h.own k e s (hT k _ hk (λe=>aE)) t ht;exact⟨n',by rw[hl k t ht];exact h1⟩;obtain⟨b,h1,h2⟩:=h.qH k k' hk;exact⟨b,by rw[eD (aI.1 h1).1];exact h1,h2⟩
end Go.Tv
namespace Go.Tv
open Go Go.Di
def o8:cx->cx
 |[]=>[]
 |b::l=>match o8 l,b with
  |[],.none=>[]
  |l',b=>b::l'
theorem IU:∀tS:cx,∃n,tS=o8 tS++List.replicate n .none
 |[]=>⟨0,rfl⟩
 |b::l=>by
  obtain⟨n,h⟩:=IU l;simp only[o8];split;rename_i e;rw[e]at h;exact⟨n+1,by rw[h];rfl⟩
  grind
inductive u6:cp->cp->Prop
 |nil:u6 [] []
 |unk {v:TV} {l m:cp}:u6 l m->u6 (.unk::l) (v::m)
 |same {v:TV} {l m:cp}:u6 l m->u6 (v::l) (v::m)
 |no {t:TT} {x:List t.den} {ap:Ap} {l m:cp}:u6 l m->u6 (.sl t x .no::l) (.sl t x ap::m)
 |stop {t:TT} {x:List t.den} {ap:Ap} {b:Bool} {l m:cp}:u6 l m->u6 (.sl t x (.stop b)::l) (.sl t x ap::m)
 |oS {t:TT} {g:Nat} {l m:cp}:u6 l m->u6 (.sl t [] (.oS g)::l) (.sl t [] .full::m)
 |jD {t:TT} {ap:Ap} {l m:cp}:u6 l m->u6 (.sl t [] ap::l) (.jD::m)
 |agg {a b l m:cp}:u6 a b->u6 l m->u6 (.agg a::l) (.agg b::m)
theorem u6.refl:∀l:cp,u6 l l
 |[]=>.nil
 |_::l=>.same (u6.refl l)
mutual
def refs:TV->cy
 |.sl _ _ (.oS g)=>[g]
 |.sl _ _ (.Ci g)=>[g]
 |.ptr id _=>[id]
 |.mp id=>[id]
 |.so g _=>[g]
 |.sp g _ _ _=>[g]
 |.nN k _ te=>k::eM te
 |.agg l=>eM l
 |.tup l=>eM l
 |.fn _ a b=>eM a++eM b
 |_=>[]
def eM:cp->cy
 |[]=>[]
 |a::l=>refs a++eM l
end
inductive Cq:cx->cx->Prop
 |nil {l:cx}:Cq [] l
 |none {b:TB} {l m:cx}:Cq l m->Cq (.none::l) (b::m)
 |own {e s:Nat} {l m:cx}:Cq l m->Cq (.own e s::l) (.own e s::m)
 |new {e s:Nat} {l:cx}:Cq l []->Cq (.own e s::l) []
 |cells {a b:cp} {l m:cx}:u6 a b->Cq l m->Cq (.cells a::l) (.cells b::m)
 |map {kt:TT} {c:List kt.den} {l m:cx}:Cq l m->Cq (.map kt c::l) (.map kt c::m)
 |rows {t:TT} {e:Nat} {c:List t.den} {z:Bool} {l m:cx}:Cq l m->Cq (.rows t e c z::l) (.rows t e c z::m)
 |loop {l m:cx}:Cq l m->Cq (.loop::l) (.loop::m)
def lJ(tS:cx)(k:Nat):Bool:=
 match tS[k]? with
 |some .none|none=>false
 |_=>true
def od:cx->cy
 |[]=>[]
 |.cells a::l=>eM a++od l
 |_::l=>od l
def okB(te:cp)(tS:cx):Bool:=(eM te++od tS).all (lJ tS)
variable {P:Program} {ty:fo} {tt:TypeId->cJ} {ι ι' w:kW} {S S':aj} {te mh:cp} {env:cn} {tS iq:cx} {aD:bT} {call:bg} {yf:dx} {o:Oper} {aB nT:Nat} {B:cy} {r:TR} {ops:Array Oper}
theorem NR{l m:cp}(h:u6 l m):∀{ds:cn},cq ι S m ds->cq ι S l ds:=by
 induction h with
 |nil=>exact id
 |unk _ ih=>intro ds hd;obtain⟨d,m',rfl,h1,h2⟩:=ax hd;exact aP (by simp only[RT]) (ih h2)
 |same _ ih=>intro ds hd;obtain⟨d,m',rfl,h1,h2⟩:=ax hd;exact aP h1 (ih h2)
 |no _ ih=>intro ds hd;obtain⟨d,m',rfl,h1,h2⟩:=ax hd;refine aP ?_ (ih h2);cases d<;>simp only[RT]at h1⊢;exact⟨h1.1,trivial⟩
 |stop _ ih=>intro ds hd;obtain⟨d,m',rfl,h1,h2⟩:=ax hd;refine aP ?_ (ih h2);cases d<;>simp only[RT]at h1⊢;exact⟨h1.1,trivial⟩
 |oS _ ih=>intro ds hd;obtain⟨d,m',rfl,h1,h2⟩:=ax hd;refine aP ?_ (ih h2);cases d<;>simp only[RT]at h1⊢;exact⟨h1.1,.inl ⟨h1.2.1,h1.2.2,lX h1.1⟩⟩
 |jD _ ih=>
  rename_i ap _ _ _;intro ds hd;obtain⟨d,m',rfl,h1,h2⟩:=ax hd;refine aP ?_ (ih h2);cases d<;>simp only[RT]at h1⊢;obtain⟨rfl,rfl,rfl⟩:=h1;refine⟨trivial,?_⟩;cases ap with
  |no=>trivial
  |full=>exact⟨rfl,rfl⟩
  |oS g=>exact .inl ⟨rfl,rfl,rfl⟩
  |stop b=>trivial
  |Ci g=>exact .inl ⟨rfl,rfl,rfl⟩
 |agg _ _ Ru Uk=>intro ds hd;obtain⟨d,m',rfl,h1,h2⟩:=ax hd;refine aP ?_ (Uk h2);cases d<;>simp only[RT]at h1⊢;exact Ru h1
mutual
theorem abh:∀(v:TV)(d:DV),(∀k∈refs v,ι' k=ι k)->RT ι S v d->RT ι' S v d
 |.unk,_,_,_=>by simp only[RT]
 |.val _,d,_,k=>by cases d<;>simp only[RT]at k⊢;exact k
 |.jD,d,_,k=>by cases d<;>simp only[RT]at k⊢;exact k
 |.agg l,d,h,k=>by cases d<;>simp only[RT]at k⊢;exact kH l _ h k
 |.tup l,d,h,k=>by cases d<;>simp only[RT]at k⊢;exact kH l _ h k
 |.sl t l .no,d,_,k=>by cases d<;>simp only[RT]at k⊢;exact k
 |.sl t l .full,d,_,k=>by cases d<;>simp only[RT]at k⊢;exact k
 |.sl t l (.stop _),d,_,k=>by cases d<;>simp only[RT]at k⊢;exact k
 |.sl t l (.Ci g),d,h,k=>by cases d<;>simp only[RT,qb]at k⊢;rw[h g (by simp[refs])];exact k
 |.sl t l (.oS g),d,h,k=>by cases d<;>simp only[RT,qb]at k⊢;rw[h g (by simp[refs])];exact k
 |.ptr id off,d,h,k=>by cases d<;>simp only[RT]at k⊢;rw[h id (by simp[refs])];exact k
 |.eU t l i off,d,_,k=>by cases d<;>simp only[RT]at k⊢;exact k
 |.mp id,d,h,k=>by cases d<;>simp only[RT]at k⊢;rw[h id (by simp[refs])];exact k
 |.so g t,d,h,k=>by cases d<;>simp only[RT]at k⊢;rw[h g (by simp[refs])];exact k
 |.nN k0 fn te,d,h,k=>by cases d<;>simp only[RT]at k⊢;obtain⟨k1,ps,a,b,env,Bv,k4,k2,k3⟩:=k;exact⟨(h k0 (by simp[refs])).trans k1,ps,a,b,env,Bv,k4,k2,kH te env (λj hj=>h j (by simp[refs,hj])) k3⟩
 |.sp g t i off,d,h,k=>by cases d<;>simp only[RT]at k⊢;rw[h g (by simp[refs])];exact k
 |.fn f a b,d,h,k=>by cases d<;>simp only[RT]at k⊢;exact⟨k.1,kH a _ (λj hj=>h j (by simp[refs,hj])) k.2.1,kH b _ (λj hj=>h j (by simp[refs,hj])) k.2.2⟩
theorem kH:∀(l:cp)(m:cn),(∀k∈eM l,ι' k=ι k)->cq ι S l m->cq ι' S l m
 |[],m,_,k=>by rw[aO k];exact bJ
 |a::l,m,h,k=>by obtain⟨d,m',rfl,h1,h2⟩:=ax k;exact aP (abh a d (λj hj=>h j (by simp[eM,hj])) h1) (kH l m' (λj hj=>h j (by simp[eM,hj])) h2)
end
theorem C6{l m:cx}(h:Cq l m):∀{k:Nat}{b:TB},l[k]? =some b->b=.none\/(∃e s,b=.own e s/\(m[k]? =some (.own e s)\/m[k]? =none))\/(∃a c,b=.cells a/\m[k]? =some (.cells c)/\u6 a c)\/(m[k]? =some b/\(∀l,b≠.cells l)/\∀e s,b≠.own e s):=by
 induction h with
 |nil=>intro k b hb;simp at hb
 |none _ ih=>grind
 |own _ ih=>grind
 |new _ ih=>grind
 |cells hl _ ih=>grind
 |map _ ih=>grind
 |rows _ ih=>grind
 |loop _ ih=>grind
theorem A9{k:Nat}{a:cp}:∀{tS:cx}{j:Nat},tS[j]? =some (.cells a)->k∈eM a->k∈od tS
 |[],_,h,_=>by simp at h
 |b::l,0,h,hk=>by simp only[dH,aF]at h;subst h;simp[od,hk]
 |b::l,j+1,h,hk=>by have:=A9 (tS:=l) (j:=j) (by simpa using h) hk;cases b<;>simp[od,this]
theorem zk(h:bO ι te tS env S)(hl:u6 mh te)(hb:Cq iq tS)(jU:okB mh iq=true)(hB:oy B iq):∃ι1,bO ι1 mh iq env S/\Fr B ι S ι1 S/\(∀k,ι1 k=if lJ iq k then ι k else none):=by
 simp only[okB,lU,aC,aU]at jU;refine⟨λk=>if lJ iq k then ι k else none,⟨?_,λk l hk=>?_,λk e s hk t ht=>?_,λk k' hk=>?_,λi j k' hi hj=>?_,λk b hk t ht=>?_⟩,⟨λ_ _ _=>rfl,λk k' hk=>?_,λk hk=>?_⟩,λ_=>rfl⟩;refine kH _ _ (λk hk=>?_) (NR hl h.env);rw[if_pos (jU.1 k hk)]
 .rcases C6 hb hk with e|⟨_,_,e,-⟩|⟨a,c,e,h1,h2⟩|⟨_,e,-⟩;cases e;cases e
  rotate_left
  grind
  cases e;obtain⟨k',ds,n1,n2,n3⟩:=h.cells k c h1;refine⟨k',ds,?_,n2,kH _ _ (λj hj=>?_) (NR h2 n3)⟩;have:lJ iq k=true:=by simp only[lJ,hk]
  rw[if_pos this];exact n1
  rw[if_pos (jU.2 j (A9 hk hj))]
 .split at ht
  .rcases C6 hb hk with e'|⟨_,_,e',h1⟩|⟨a,c,e',h1,h2⟩|⟨_,-,e'⟩
   rotate_left 3
   grind
   cases e';cases e';rcases h1 with h1|h1;exact h.own k e s h1 t ht;obtain⟨b,h2,-⟩:=h.qH k t ht;rw[h1]at h2;cases h2
   cases e'
  cases ht
 split at hk;rename_i nH;unfold lJ at nH;split at nH
 grind
 grind
 grind
 cases hk;split at hi;split at hj;exact h.inj i j k' hi hj;cases hj;cases hi;split at ht;rcases C6 hb hk with e'|⟨_,_,e',-⟩|⟨_,_,e',-⟩|⟨h1,-⟩;subst e';trivial
 subst e';trivial
 subst e';trivial
 exact h.mp k _ h1 t ht;cases ht
 grind
 obtain⟨l,h1⟩:=hB k hk;have:lJ iq k=true:=by cases l<;>(simp only[lQ]at h1;simp only[lJ,h1])
 simp only[this,if_true]
theorem zI(hb:Cq iq tS)(hB:oy B tS)(h:∀k,k∈B->lJ iq k=true):oy B iq:=by
 intro k hk;have h1:=h k hk;obtain⟨l,h2⟩:=hB k hk;unfold lJ at h1;split at h1;cases h1;cases h1;rename_i b yb uZ;cases hx:iq[k]? with
 |none=>exact(uZ hx).elim
 |some b=>
  rcases C6 hb hx with e|⟨_,_,e,h3⟩|⟨a,c,e,-,-⟩|⟨h3,e,-⟩
  grind
  grind
  exact⟨some a,by rw[e];rfl⟩
  grind
theorem La(h:bO ι te tS env S):bO ι te (o8 tS) env S:=by
 obtain⟨n,hn⟩:=IU tS;have hT:∀(k:Nat)(b:TB),b≠.none->(tS[k]? =some b↔(o8 tS)[k]? =some b):=by grind
 refine⟨h.env,λk l hk=>h.cells k l ((hT _ _ (λe=>aE)).2 hk),λk e s hk=>h.own k e s ((hT _ _ (λe=>aE)).2 hk),λk k' hk=>?_,h.inj,λk b hk t ht=>by
  cases b with
  |none=>trivial
  |_=>exact h.mp k _ ((hT _ _ (λe=>aE)).2 hk) t ht⟩
 obtain⟨b,h1,h2⟩:=h.qH k k' hk;exact⟨b,(hT _ _ h2).1 h1,h2⟩
theorem LZ(hB:oy B tS):oy B (o8 tS):=by intro k hk;obtain⟨l,h1⟩:=hB k hk;obtain⟨n,hn⟩:=IU tS;refine⟨l,?_⟩;rw[hn,Rn]at h1;split at h1;exact h1;rw[Df]at h1;split at h1;cases l<;>cases h1;cases h1
section
variable (P:Program) (ty:fo) (aD:bT) (call:bg) (yf:dx) (B:cy) (L:Nat) (fn:FuncId) (iH:Bool)
def WT(c:Code)(te:cp)(tS:cx)(Q:DX->cp->cx->Prop):Prop:=
 ∀ι env S,bO ι te tS env S->oy B tS->∃e aL S' ι' bS bK,cI P ty aD call yf L fn iH c env S=some (e,aL,S')/\bO ι' bS bK aL S'/\oy B bK/\Fr B ι S ι' S'/\Nn S.length S S'/\Q e bS bK
end
section
variable {L:Nat} {fn:FuncId} {iH:Bool} {a b c:Code} {Q Q':DX->cp->cx->Prop}
theorem WT.mono (h:WT P ty aD call yf B L fn iH c te tS Q)(hq:∀e te tS,Q e te tS->Q' e te tS):WT P ty aD call yf B L fn iH c te tS Q':=by intro ι env S hR hB;obtain⟨e,aL,S',ι',bS,bK,h1,h2,h3,h4,h5,h6⟩:=h ι env S hR hB;exact⟨e,aL,S',ι',bS,bK,h1,h2,h3,h4,h5,hq _ _ _ h6⟩
theorem aaO(h:Q .normal te tS):WT P ty aD call yf B L fn iH .skip te tS Q:=λι env S hR hB=>⟨.normal,env,S,ι,te,tS,rfl,hR,hB,Fr.refl _ _ _,fP _ _,h⟩
theorem Xl{l:Nat}(h:Q .normal te tS):WT P ty aD call yf B L fn iH (.label l) te tS Q:=λι env S hR hB=>⟨.normal,env,S,ι,te,tS,rfl,hR,hB,Fr.refl _ _ _,fP _ _,h⟩
theorem aaR{id:Nat}(h:Q (.exit id) te tS):WT P ty aD call yf B L fn iH (.exit id) te tS Q:=λι env S hR hB=>⟨.exit id,env,S,ι,te,tS,rfl,hR,hB,Fr.refl _ _ _,fP _ _,h⟩
theorem aeA(h:Q .ret te tS):WT P ty aD call yf B L fn iH .ret te tS Q:=λι env S hR hB=>⟨.ret,env,S,ι,te,tS,rfl,hR,hB,Fr.refl _ _ _,fP _ _,h⟩
theorem Xg(h:WT P ty aD call yf B L fn iH c te tS Q):WT P ty aD call yf B L fn iH (.scope c) te tS Q:=λι env S hR hB=>by obtain⟨e,aL,S',ι',bS,bK,h1,h2⟩:=h ι env S hR hB;exact⟨e,aL,S',ι',bS,bK,by simp only[cI,h1],h2⟩
theorem Wl(h:WT P ty aD call yf B L fn iH a te tS λe te tS=>match e with|.normal=>WT P ty aD call yf B L fn iH b te tS Q|e=>Q e te tS):WT P ty aD call yf B L fn iH (.seq a b) te tS Q:=by
 intro ι env S hR hB;obtain⟨e,aL,S',ι',bS,bK,h1,h2,h3,h4,h5,h6⟩:=h ι env S hR hB;cases e with
 |normal=>obtain⟨e,q8,xh,ι'',tK,tL,k1,k2,k3,k4,k5,k6⟩:=h6 ι' aL S' h2 h3;exact⟨e,q8,xh,ι'',tK,tL,by simp only[cI,h1,k1],k2,k3,h4.trans k4,uz h5 k5,k6⟩
 |exit id=>exact⟨_,aL,S',ι',bS,bK,by simp only[cI,h1],h2,h3,h4,h5,h6⟩
 |ret=>exact⟨_,aL,S',ι',bS,bK,by simp only[cI,h1],h2,h3,h4,h5,h6⟩
theorem aaS{x:Operand}{t:Bool}(hx:eL te x=some (.val (.bool t)))(h1:t=true->WT P ty aD call yf B L fn iH a te tS Q)(h2:t=false->WT P ty aD call yf B L fn iH b te tS Q):WT P ty aD call yf B L fn iH (.cond x a b) te tS Q:=by
 intro ι env S hR hB;obtain⟨d,k1,k2⟩:=bp hR.env hx;cases d<;>simp only[RT]at k2;subst k2;cases t with
 |true=>obtain⟨e,aL,S',ι',bS,bK,m1,m2⟩:=h1 rfl ι env S hR hB;exact⟨e,aL,S',ι',bS,bK,by simp only[cI,k1,m1],m2⟩
 |false=>obtain⟨e,aL,S',ι',bS,bK,m1,m2⟩:=h2 rfl ι env S hR hB;exact⟨e,aL,S',ι',bS,bK,by simp only[cI,k1,m1],m2⟩
theorem Xn{id:Nat}(h:WT P ty aD call yf B L fn iH c te tS λe te tS=>match e with|.exit iG=>Q (if iG=id then .normal else .exit iG) te tS|e=>Q e te tS):WT P ty aD call yf B L fn iH (.block id c) te tS Q:=by
 intro ι env S hR hB;obtain⟨e,aL,S',ι',bS,bK,h1,h2,h3,h4,h5,h6⟩:=h ι env S hR hB;cases e with
 |normal=>exact⟨_,aL,S',ι',bS,bK,by simp only[cI,h1],h2,h3,h4,h5,h6⟩
 |exit iG=>exact⟨_,aL,S',ι',bS,bK,by simp only[cI,h1],h2,h3,h4,h5,h6⟩
 |ret=>exact⟨_,aL,S',ι',bS,bK,by simp only[cI,h1],h2,h3,h4,h5,h6⟩
theorem aaP(hl:u6 mh te)(hb:Cq iq tS)(jU:okB mh iq=true)(hB:∀k,k∈B->lJ iq k=true)(h:WT P ty aD call yf B L fn iH c mh iq Q):WT P ty aD call yf B L fn iH c te tS Q:=by intro ι env S hR RE;have RF:=zI hb RE hB;obtain⟨ι1,h1,h2,-⟩:=zk hR hl hb jU RF;obtain⟨e,aL,S',ι',bS,bK,m1,m2,m3,m4,m5⟩:=h ι1 env S h1 RF;exact⟨e,aL,S',ι',bS,bK,m1,m2,m3,h2.trans m4,m5⟩
structure Fits (B:cy) (mh:cp) (iq:cx) (te:cp) (tS:cx):Prop where
 l:u6 mh te
 b:Cq iq tS
 ok:okB mh iq=true
 base:∀k,k∈B->lJ iq k=true
theorem Xk{id:Nat}(h:WL P ty aD call yf B ops 0 te tS λte tS=>Q .normal te (o8 tS)):WT P ty aD call yf B L fn iH (.region id ops false) te tS Q:=by intro ι env S hR hB;obtain⟨aL,S',ι',bS,bK,h1,h2,h3,h4,h5,h6⟩:=h ι env S hR hB;refine⟨.normal,aL,S',ι',bS,o8 bK,?_,La h2,LZ h3,h4,h5,h6⟩;rw[qy]at h1;simp only[cI,qp,lY,Kk,kM,Bool.false_and,gq,aJ,if_false,h1,ay]
theorem Xi{id:Nat}(hd:lR ops (Region.before ops)=true)(hl:wI P ops=false)(h:WQ P ty aD call yf ops tS 0 te λte=>Q .normal te tS):WT P ty aD call yf B L fn iH (.region id ops true) te tS Q:=by intro ι env S hR hB;obtain⟨aL,bS,h1,h2,h3⟩:=h ι env S hR;refine⟨.normal,aL,S,ι,bS,tS,?_,h2,hB,Fr.refl _ _ _,fP _ _,h3⟩;rw[qy]at h1;simp only[wI,Bool.or_eq_false_iff]at hl;simp only[cI,qp,lY,Kk,kM,Bool.false_and,gq,if_true,hd,hl.2,fR,aJ,if_false,h1,ay]
theorem Xm{id:Nat}(hd:lR ops (Region.before ops)=true)(hn:wI P ops=true)(h:WD P ty aD call yf B ops 0 te (tS++List.replicate ops.size .none) [] λte tS=>Q .normal te (o8 tS)):WT P ty aD call yf B L fn iH (.region id ops true) te tS Q:=by
 intro ι env S hR hB;have j3:=Qp hR ops.size ops.size;obtain⟨w,hw⟩:=Nx j3;have hB':oy B (tS++List.replicate ops.size .none):=λk hk=>by obtain⟨l,h1⟩:=hB k hk;exact⟨l,by rw[eD (aI.1 h1).1];exact h1⟩
 obtain⟨aL,S',xe,ι',w',bS,bK,ft,h1,h2,-,h4,h5,h6,h7,h8,h9⟩:=h ι w env (S++List.replicate ops.size .none) S.length j3 hB' hw (λj _ hj=>by rw[fT ab,Df,if_pos ab]);refine⟨.normal,aL,S',ι',bS,o8 bK,?_,La h5,LZ h6,⟨λk' hl hno=>?_,λk k' hk=>?_,h7.base⟩,⟨?_,λj hj dU=>?_⟩,h9⟩;rw[qy]at h1;simp only[cI,qp,lY,Kk,kM,Bool.false_and,gq,if_true,hd,fR,aJ,if_false,TP hn,h1,afh h2 (by simpa using h4),ay];have e:=ext_get (n:=ops.size) hl;rw[h7.rest k' (by obtain⟨b,e1,e2⟩:=hl;exact⟨b,e.trans e1,e2⟩) hno];exact e;refine(h7.ours k k' hk).imp (λe=>e) λZR hl=>ZR ?_;obtain⟨b,e1,e2⟩:=hl;exact⟨b,(ext_get ⟨b,e1,e2⟩).trans e1,e2⟩
 grind
 grind
end
end Go.Tv
