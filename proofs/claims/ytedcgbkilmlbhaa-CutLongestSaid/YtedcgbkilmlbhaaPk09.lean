import Derived.Test.YtedcgbkilmlbhaaPk08
namespace Go.Tv
open Go Go.Di Go.Proofs
def DO(tS:List TB)(k:Nat):Option (TV×List TV):=
 match tS[k]? with
 |some (.cells (a::l))=>match rE a with
  |true=>some (a,l)
  |false=>none
 |_=>none
def MN(e s:Nat):List TB->Nat
 |.own e' s'::l=>match e'==e&&s'==s with
  |true=>MN e s l+1
  |false=>0
 |_=>0
def pU(e s:Nat):Nat->List TB->Nat×Nat
 |i,[]=>(i,0)
 |i,b::l=>match MN e s (b::l)with
  |0=>pU e s (i+1) l
  |n+1=>(i,n+1)
def Ii(tS:List TB)(g:Nat):List TB->List TB
 |[]=>[]
 |.cells l::m=>.cells (match l with
  |[]=>[]
  |a::l=>match rE a with
   |true=>a::kE g l
   |false=>gf tS (a::l))::Ii tS g m
 |b::m=>b::Ii tS g m
def Y9(l:List TV)(j:Nat)(v:TV):List TV:=l.set j v
inductive adv where
 |ix (v:TV) (c:Prop)
 |ld0 (id off:Nat) (t:TT) (x:List t.den)
 |ld (id off:Nat) (u:TT) (c:TV) (l:List TV) (b:Bool)
 |st (id off:Nat) (c:TV) (l:List TV) (u:TT) (y:List u.den) (g:Nat)
 |ap (e s g:Nat) (k:TT) (l:List k.den) (c:Prop)
def aed:TV->Bool
 |.sl _ _ (.stop b)=>b
 |_=>false
def aff(u:TT):TV->Option (List u.den)
 |.sl t l _=>if h:t=u then some (h▸l)else none
 |_=>none
section
variable (P:Program) (ty:fP) (tt:TypeId->Option TT)
def CD(te:List TV)(tS:List TB)(o:Oper):Option adv:=
 match o.op with
 |.indexAddr t x i=>match fM te x with
  |some (.ptr id off)=>match DO tS id with
   |some _=>match ty t,H8 te i with
    |some ⟨.array k s _,_,_⟩,some n=>some (.ix (.ptr id (n.toNat*s+off)) (0<=n/\n<(k:Int)))
    |_,_=>none
   |none=>none
  |_=>none
 |.load t a=>match fM te a with
  |some (.ptr id off)=>match DO tS id with
   |some (c,l)=>match ty t,tt t with
    |some d,some (.sl u)=>match d.k.isAgg with
     |true=>none
     |false=>match aff u c with
      |some x=>some (.ld0 id off u x)
      |none=>some (.ld id off u c l (aed c))
    |_,_=>none
   |none=>none
  |_=>none
 |.store t a x=>match fM te a with
  |some (.ptr id off)=>match DO tS id with
   |some (c,l)=>match ty t,fM te x with
    |some d,some (.sl u y (.Cz g))=>match d.size==1 with
     |true=>some (.st id off c l u y g)
     |false=>none
    |_,_=>none
   |none=>none
  |_=>none
 |.call {callee:=.builtin .append,args,argTypes}=>match args.toList,argTypes.toList with
  |[x,y],[t,u]=>match fM te x with
   |some (.sl k l (.Cz g))=>if t=u/\ty.h o≠1 then match ty t,(fM te y).map (fO tt t)with
    |some ⟨.slice e s lU _,_,_⟩,some (.sl k' m _)=>match ty e with
     |some ⟨_,_,some _⟩=>if h:k'=k then
      if decide (0<s)&&decide (lU<=100000)&&k.size==s then some (.ap e s g k (l++(h▸m)) (l.length+m.length<=1000000000))else none
      else none
     |_=>none
    |_,_=>none
    else none
   |_=>none
  |_,_=>none
 |_=>none
end
variable {P:Program} {ty:fP} {tt:TypeId->Option TT} {ι ι' w:lq} {S S':ai} {te bZ:List TV} {env:List DV} {tS bN:List TB} {aI:bS} {call:bt} {yf:ew} {o:Oper} {aD nT:Nat} {B:List Nat} {ops:Array Oper}
def Ta(u v:TV):Prop:=∀ι S d,RT ι S v d->RT ι S u d
def Dr(l m:List TV):Prop:=∀ι S ds,cQ ι S m ds->cQ ι S l ds
def TL(bN tS:List TB):Prop:=∀k:Nat,bN[k]? =tS[k]? \/∃a b,bN[k]? =some (.cells a)/\tS[k]? =some (.cells b)/\Dr a b
theorem Dr.refl (l:List TV):Dr l l:=λ_ _ _ h=>h
theorem Ta.refl (v:TV):Ta v v:=λ_ _ _ h=>h
theorem TL.refl (tS:List TB):TL tS tS:=λ_=>.inl rfl
theorem vC{u v:TV}{l m:List TV}(h:Ta u v)(k:Dr l m):Dr (u::l) (v::m):=λι S ds hd=>by obtain⟨d,m',rfl,h1,h2⟩:=ak hd;exact aQ (h _ _ _ h1) (k _ _ _ h2)
theorem M8{u v:TV}(h:Ta u v):∀(i:Nat)(l:List TV),Dr (l.set i u) (l.set i v)
 |_,[]=>Dr.refl _
 |0,_::l=>vC h (Dr.refl l)
 |i+1,a::l=>vC (Ta.refl a) (M8 h i l)
theorem adW{u v:TV}(h:Ta u v)(dst:Option Tmp)(l:List TV):Dr (ki l dst u) (ki l dst v):=by
 cases dst with
 |none=>exact Dr.refl _
 |some d=>exact M8 h d l
theorem Nl(h:bT ι te tS env S)(h1:Dr bZ te)(h2:TL bN tS):bT ι bZ bN env S:=by
 refine⟨h1 _ _ _ h.env,λk l hk=>?_,λk e s hk=>?_,λk k' hk=>?_,h.inj,λk b hk t ht=>?_⟩
 .rcases h2 k with e|⟨a,b,e1,e2,e3⟩;.exact h.cells k l (e▸hk)
  rw[e1]at hk;cases hk;obtain⟨k',ds,n1,n2,n3⟩:=h.cells k b e2;exact⟨k',ds,n1,n2,e3 _ _ _ n3⟩
 .rcases h2 k with e'|⟨a,b,e1,e2,e3⟩;.exact h.own k e s (e'▸hk)
  rw[e1]at hk;cases hk
 .obtain⟨b,n1,n2⟩:=h.qv k k' hk;rcases h2 k with e|⟨a,b',e1,e2,e3⟩;.exact⟨b,e.trans n1,n2⟩
  exact⟨_,e1,by simp⟩
 rcases h2 k with e|⟨a,b',e1,e2,e3⟩;.exact h.mp k b (e▸hk) t ht
 rw[e1]at hk;cases hk;trivial
theorem ae0(h:oK B tS)(h2:TL bN tS):oK B bN:=λk hk=>by
 obtain⟨l,h1⟩:=h k hk;rcases h2 k with e|⟨a,b',e1,e2,e3⟩;.exact⟨l,e.trans h1⟩
 exact⟨some a,e1⟩
theorem afS{k:Nat}{Q:List TV->Prop}(h:Dr bZ te)(hq:WQ P ty aI call yf ops tS k bZ Q):WQ P ty aI call yf ops tS k te Q:=
 λι env S hR=>hq ι env S (Nl hR h (TL.refl _))
theorem Db{dr:Bool}{Q Q':TV->List TV->List TB->dm->Prop}(h:Does P ty aI call yf B o nT te tS dr Q)(hq:∀v bZ bN ft,Q v bZ bN ft->∃v2 Ti jV ft2,Ta v2 v/\Dr Ti bZ/\TL jV bN/\(ft.wr=true->ft2.wr=true)/\(∀l,ft2.ids=some l->∃l',ft.ids=some l'/\∀j∈l',j∈l)/\Q' v2 Ti jV ft2):Does P ty aI call yf B o nT te tS dr Q':=by
 intro ι w env S aD hR hB hw hT hn hS;obtain⟨d,S',ι',w',v,bZ,bN,f,ft,h1,h2,h3,h4,h5,h6,h7,h8,h9,wO,HT,Yr⟩:=h ι w env S aD hR hB hw hT hn hS;obtain⟨v2,Ti,jV,ft2,q1,q2,q3,q4,q5,q6⟩:=hq _ _ _ _ Yr;refine⟨d,S',ι',w',v2,Ti,jV,f,ft2,h1,h2,⟨λe=>q4 (h3.1 e),λl hl=>?_⟩,λl m hl hm=>?_,Nl h5 q2 q3,q1 _ _ _ h6,h7,h8,h9,ae0 wO q3,HT,q6⟩;.obtain⟨l',e1,e2⟩:=q5 l hl;obtain⟨m,e3,e4⟩:=h3.2 l' e1;exact⟨m,e3,λj hj=>(e4 j hj).imp λi hi=>⟨e2 _ hi.1,hi.2⟩⟩
 obtain⟨l',e1,-⟩:=q5 l hl;exact h4 l' m e1 hm
theorem XY{dr:Bool}{Q:TV->List TV->List TB->dm->Prop}(h1:Dr bZ te)(h:Does P ty aI call yf B o nT bZ tS dr Q):Does P ty aI call yf B o nT te tS dr Q:=
 λι w env S aD hR=>h ι w env S aD (Nl hR h1 (TL.refl _))
theorem A6{k:Nat}{a:TV}{l:List TV}(h:DO tS k=some (a,l)):tS[k]? =some (.cells (a::l))/\rE a=true:=by
 unfold DO at h;split at h
 .rename_i h1;split at h;.rename_i h2;cases h;exact⟨h1,h2⟩
  cases h
 cases h
def pR:TV->TV
 |.sl t l (.Cz g)=>.sl t l (.kA g)
 |v=>v
theorem Wc(v:TV)(d:DV):RT ι S (pR v) d↔RT ι S v d:=by
 unfold pR;split;.cases d<;>simp only[RT,pQ]
 exact Iff.rfl
theorem KI:∀l:List TV,Dr (l.map pR) l
 |[]=>Dr.refl _
 |a::l=>vC (λ_ _ _ h=>(Wc a _).2 h) (KI l)
theorem Hy{x:Operand}{v:TV}(h:fM te x=some v):fM (te.map pR) x=some (pR v):=by
 cases x with
 |tmp t=>simp only[fM,aB]at h⊢;subst h;rw[aR,aR,cR];cases te[t]?<;>rfl
 |const v0=>
  simp only[fM,af]at h⊢;obtain⟨d,h1,rfl⟩:=h;refine⟨d,h1,?_⟩;have h1:∀d,pR (tM d)=tM d:=λd=>by unfold tM;split<;>rfl
  unfold Zc;split;.rfl
  .rfl
  exact(h1 _).symm
 |func f=>simp only[fM,aB]at h⊢;subst h;rfl
 |global _=>simp[fM]at h
theorem Jy{t:TypeId}{v v':TV}(h:fO tt t v=v'):fO tt t (pR v)=pR v':=by
 subst h;cases v with
 |au=>simp only[pR,fO];split<;>rfl
 |sl t l ap=>cases ap<;>rfl
 |_=>rfl
mutual
theorem EF{g e s:Nat}(hg:tS[g]? =some (.own e s)):∀(v:TV)(d:DV),RT ι S (tZ g v) d->RT ι S (eL tS v) d
 |.unk,_,_=>by simp only[eL,RT]
 |.val _,d,k=>by simpa only[tZ,eL]using k
 |.au,d,k=>by simpa only[tZ,eL]using k
 |.agg l,d,k=>by cases d<;>simp only[tZ,eL,RT]at k⊢;exact pJ hg l _ k
 |.tup l,d,k=>by cases d<;>simp only[tZ,eL,RT]at k⊢;exact pJ hg l _ k
 |.sl t l .no,d,k=>by simpa only[tZ,eL]using k
 |.sl t l .full,d,k=>by simpa only[tZ,eL]using k
 |.sl t l (.stop b),d,k=>by simpa only[tZ,eL]using k
 |.sl t l (.Cz _),d,k=>by simpa only[tZ,eL]using k
 |.sl t l (.kA j),d,k=>by
  simp only[tZ]at k;simp only[eL];split at k;.exact k
  cases d<;>simp only[RT]at k⊢;exact⟨k.1,trivial⟩
 |.ptr id off,d,k=>by
  simp only[tZ]at k;simp only[eL];split
  .rename_i hc;rw[if_neg]at k;.exact k
   rintro rfl;simp only[jY,hg]at hc;cases hc
  simp only[RT]
 |.fF t l i off,d,k=>by simpa only[tZ,eL]using k
 |.mp id,d,k=>by simp only[eL,RT]
 |.so g t,d,k=>by simp only[eL,RT]
 |.sp g t i off,d,k=>by simp only[eL,RT]
 |.oq k0 fn te,d,k=>by simp only[eL,RT]
 |.fn f a b,d,k=>by cases d<;>simp only[tZ,eL,RT]at k⊢;exact⟨k.1,pJ hg a _ k.2.1,pJ hg b _ k.2.2⟩
theorem pJ{g e s:Nat}(hg:tS[g]? =some (.own e s)):∀(l:List TV)(m:List DV),cQ ι S (kE g l) m->cQ ι S (gf tS l) m
 |[],m,k=>k
 |a::l,m,k=>by simp only[kE]at k;obtain⟨d,m',rfl,h1,h2⟩:=ak k;simp only[gf];exact aQ (EF hg a d h1) (pJ hg l m' h2)
end
theorem Fc{g e s:Nat}(hg:tS[g]? =some (.own e s)):∀l:List TV,Dr (gf tS l) (kE g (l.map pR))
 |[]=>Dr.refl _
 |a::l=>by
  simp only[aV,kE,gf];refine vC (λι S d h=>?_) (Fc hg l);unfold pR at h;split at h;.rename_i t l0 g0;have:=EF hg (.sl t l0 (.kA g0)) d h;simpa only[eL]using this
  exact EF hg a d h
theorem QD{g e s:Nat}(hg:tS[g]? =some (.own e s)):∀m:List TB,TL (Ii tS g m) (m.map (qA g))
 |[]=>TL.refl _
 |b::m=>by
  have ih:=QD hg m;intro k;cases b with
  |cells l=>
   simp only[Ii,aV,qA];cases k with
   |zero=>
    refine .inr ⟨_,_,rfl,rfl,?_⟩;cases l with
    |nil=>exact Dr.refl _
    |cons a l=>
     simp only;split
     .rename_i hs;simp only[kE];refine vC (λι S d h=>?_) (Dr.refl _);cases a<;>first|(cases hs;done)|skip
      rename_i t x ap;cases ap<;>first|(cases hs;done)|skip
      simpa only[tZ]using h
     exactλι S ds h=>pJ hg (a::l) ds h
   |succ k=>simpa using ih k
  |_=>
   simp only[Ii,aV,qA];cases k with
   |zero=>exact .inl rfl
   |succ k=>simpa using ih k
theorem PA{e s:Nat}:∀{l:List TB}{j:Nat},j<MN e s l->l[j]? =some (.own e s)
 |[],_,h=>by simp[MN]at h
 |b::l,j,h=>by
  cases b with
  |own e' s'=>
   simp only[MN]at h;split at h
   .rename_i hc;simp only[aA,dU]at hc;obtain⟨rfl,rfl⟩:=hc;cases j with
    |zero=>rfl
    |succ j=>simpa using PA (l:=l) (j:=j) (by omega)
   omega
  |_=>simp only[MN]at h;omega
theorem Lf{e s:Nat}:∀{l:List TB}{i g:Nat},(pU e s i l).1<=g->g<(pU e s i l).1+(pU e s i l).2->i<=g/\l[g-i]? =some (.own e s)
 |[],i,g,h1,h2=>by simp only[pU]at h1 h2;omega
 |b::l,i,g,h1,h2=>by
  simp only[pU]at h1 h2;cases hr:MN e s (b::l)with
  |zero=>rw[hr]at h1 h2;obtain⟨q1,q2⟩:=Lf h1 h2;refine⟨by omega,?_⟩;rw[show g-i=(g-(i+1))+1 by omega];simpa using q2
  |succ n=>rw[hr]at h1 h2;simp only at h1 h2;exact⟨h1,PA (by omega)⟩
theorem Xb{c v:TV}{l:List TV}{j:Nat}(hj:j<l.length):MO (c::l) (j+1) [v]=some (c::l.set j v):=by unfold MO;rw[if_pos (by simp;omega)];simp only[List.take_succ_cons,nM,dw,kX,jr,List.drop_succ_cons,aB,List.cons.injEq,true_and];rw[iO,List.singleton_append,List.set_eq_take_append_cons_drop,if_pos hj]
theorem ad9{v:TV}{c:Prop}(h:CD ty tt te tS o=some (.ix v c))(hc:c):bP P ty tt te tS o=some (v,True)/\(∃t x i,o.op=.indexAddr t x i):=by
 unfold CD at h;split at h
 .rename_i t x i ho;refine⟨?_,_,_,_,ho⟩;split at h
  .rename_i id off e2;split at h
   .split at h;.rename_i k s agg sz z n e1 e3;cases h;simp only[bP,ho,e1,e2,e3,av,fO];rw[if_pos ⟨hc.1,by omega⟩,mz]
    cases h
   cases h
  cases h
 all_goals (repeat' split at h)<;>cases h
theorem ZZ{id off:Nat}{t:TT}{x:List t.den}(h:CD ty tt te tS o=some (.ld0 id off t x))(hc:off=0):(∃ap,bP P ty tt te tS o=some (.sl t x ap,True))/\lD te o=[id]/\∃t a,o.op=.load t a:=by
 unfold CD at h;split at h
 ·(repeat' split at h)<;>cases h
 .rename_i tl a ho;split at h
  .rename_i jd sQ e3;split at h
   .rename_i c l hs;obtain⟨k1,k2⟩:=A6 hs;split at h
    rotate_left
    .cases h
    rename_i d u e1 e2;split at h;.cases h
    rename_i adf;split at h
    .rename_i x' hx;cases h;subst hc;unfold aff at hx;split at hx
     .rename_i t' l' QZ;split at hx;.rename_i ht;subst ht;cases hx;exact⟨⟨QZ,by simp only[bP,ho,e1,e3,k1,wX,adf,aG,if_false,cg,av,fO]⟩,by simp only[lD,ho,e3],_,_,ho⟩
      cases hx
     cases hx
    cases h
   cases h
  cases h
 all_goals (repeat' split at h)<;>cases h
theorem Vf{id off:Nat}{u:TT}{c:TV}{l:List TV}{b:Bool}(h:CD ty tt te tS o=some (.ld id off u c l b)){x:List u.den}{ap:Ap}(hx:(c::l)[off]? =some (.sl u x ap)):bP P ty tt te tS o=some (.sl u x ap,True)/\lD te o=[id]/\∃t a,o.op=.load t a:=by
 unfold CD at h;split at h
 ·(repeat' split at h)<;>cases h
 .rename_i tl a ho;split at h
  .rename_i jd sQ e3;split at h
   .rename_i c l hs;obtain⟨k1,k2⟩:=A6 hs;split at h
    rotate_left
    .cases h
    rename_i d u e1 e2;split at h;.cases h
    rename_i adf;split at h;.cases h
    cases h;exact⟨by simp only[bP,ho,e1,e3,k1,wX,adf,aG,if_false,hx,av,fO],by simp only[lD,ho,e3],_,_,ho⟩
   cases h
  cases h
 all_goals (repeat' split at h)<;>cases h
theorem EP{v:TV}(hp:bP P ty tt te tS o=some (v,True))(ho:(∃t x i,o.op=.indexAddr t x i)\/∃t a,o.op=.load t a):stepT P ty tt te tS o nT=some ⟨v,te,tS,lD te o,True⟩/\nU o=false:=by
 rcases ho with ⟨t,x,i,ho⟩|⟨t,a,ho⟩;.exact⟨by simp only[stepT,ho,hp,av],by simp only[nU,ho]⟩
 exact⟨by simp only[stepT,ho,hp,av],by simp only[nU,ho]⟩
theorem aa6{id off:Nat}{c:TV}{l:List TV}{u:TT}{y:List u.den}{g j:Nat}(h:CD ty tt te tS o=some (.st id off c l u y g))(ho:off=j+1)(hj:j<l.length)(dr:Bool):Does P ty aI call yf B o nT te tS dr λv bZ bN ft=>v=.unk/\bZ=te/\bN=tS.set id (.cells (c::l.set j (.sl u y (.kA g))))/\ft=⟨some [id],true⟩:=by
 unfold CD at h;split at h
 ·(repeat' split at h)<;>cases h
 ·(repeat' split at h)<;>cases h
 .rename_i t a x hop;split at h
  .rename_i jd sQ e2;split at h
   .rename_i c' l' hs;obtain⟨k1,k2⟩:=A6 hs;split at h
    rotate_left
    .cases h
    rename_i d u' y' g' e1 e3;split at h
    .rename_i hd;cases h;subst ho;have hst:stepT P ty tt te tS o nT=some ⟨.unk,te,tS.set id (.cells (c::l.set j (.sl u y (.Cz g)))),[id],True⟩:=by
      have xC:d.size=1:=by simpa using hd
      have hr:fO tt t (.sl u y (.Cz g))=.sl u y (.Cz g):=rfl;simp only[stepT,hop,e1,e2,e3,av,hr,k1,TV.known,TV.cells,qV,cA,List.all_nil,acL,s8,xC,vV,if_true,Xb hj,av]
     refine Db (lQ hst trivial dr) ?_;rintro v bZ bN ft ⟨rfl,rfl,rfl,rfl⟩;refine⟨.unk,_,_,⟨some [id],true⟩,Ta.refl _,Dr.refl _,λk=>?_,λ_=>rfl,λl h=>⟨l,h,λ_ h=>h⟩,rfl,rfl,rfl,rfl⟩;rw[aF,aF];split
     .split;.refine .inr ⟨_,_,rfl,rfl,vC (Ta.refl _) (M8 (λι S d h=>?_) j l)⟩;cases d<;>simp only[RT,pQ]at h⊢;exact h
      exact .inl rfl
     exact .inl rfl
    cases h
   cases h
  cases h
 all_goals (repeat' split at h)<;>cases h
theorem aa7{e s g:Nat}{k:TT}{l:List k.den}{c:Prop}(h:CD ty tt te tS o=some (.ap e s g k l c))(hc:c)(h1:(pU e s 0 tS).1<=g)(h2:g<(pU e s 0 tS).1+(pU e s 0 tS).2)(dr:Bool):Does P ty aI call yf B o nT te tS dr λv bZ bN ft=>v=.sl k l (.Cz g)/\bZ=gf tS te/\bN=Ii tS g tS/\ft=⟨some (nT::List.range' (pU e s 0 tS).1 (pU e s 0 tS).2),true⟩:=by
 obtain⟨-,hg⟩:=Lf h1 h2;rw[Nat.sub_zero]at hg;unfold CD at h;split at h;iterate 3 (· (repeat' split at h)<;>cases h)
 .rename_i args argTypes hop;split at h
  .rename_i x y t u ha ht;split at h
   rotate_left
   .cases h
   rename_i k1 l0 g0 e2;split at h
   .rename_i QT;split at h
    .rename_i e0 s0 lU agg sz z0 k0 m ap1 e1 e3;split at h
     .rename_i k' sz' z e4;split at h
      .rename_i hk;subst hk;split at h
       .rename_i hb;cases h;simp only[af]at e3;obtain⟨v1,f1,f2⟩:=e3;have hst:stepT P ty tt (te.map pR) tS o nT=some ⟨.sl k (l0++m) (.kA g),kE g (te.map pR),tS.map (qA g),[g,nT],l0.length+m.length<=1000000000⟩:=by
         have hx:=Hy e2;have hy:=Hy f1;have hr:fO tt t (.sl k l0 (.kA g))=.sl k l0 (.kA g):=rfl;have MD:=Jy (tt:=tt) f2;have hu:∃ap2,pR (TV.sl k m ap1)=.sl k m ap2:=by cases ap1<;>exact⟨_,rfl⟩
         obtain⟨ap2,hu⟩:=hu;rw[hu]at MD;have kg:fM (te.map pR) x=some (.sl k l0 (.kA g)):=hx;obtain⟨rfl,hh⟩:=QT;simp only[stepT,hop,ha,ht,hh,ne_eq,not_false_eq_true,and_self,if_true,e1,kg,hy,av,hr,MD,e4,dite_true,hb,hg,vV,fV]
        refine XY (KI te) (Db (lQ hst hc dr) ?_);rintro v bZ bN ft ⟨rfl,rfl,rfl,rfl⟩;refine⟨_,_,_,_,λι S d h=>?_,Fc hg te,QD hg tS,λ_=>rfl,λl' iU=>⟨_,rfl,λj hj=>?_⟩,rfl,rfl,rfl,rfl⟩;.cases d<;>simp only[RT,pQ]at h⊢;exact h
        cases iU;simp only[bz,fq,or_false]at hj;rcases hj with rfl|rfl;.exact nO _ (by rw[List.mem_range'];exact⟨j-(pU e s 0 tS).1,by omega,by omega⟩)
        exact gv ..
       cases h
      cases h
     cases h
    cases h
   cases h
  cases h
 cases h
end Go.Tv
namespace Go.Tv
open Go Go.Di Go.Proofs
def aO(b:Bool)(A B:Prop):Prop:=
 match b with
 |true=>A
 |false=>B
def AG:List Prop->Prop->Prop
 |[],R=>R
 |p::l,R=>p/\AG l R
def dB:List Prop->Prop
 |[]=>True
 |p::l=>p/\dB l
def impl:List Prop->Prop->Prop
 |[],R=>R
 |p::l,R=>p->impl l R
inductive sM:Type 1
 |ex (α:Type) (k:α->sM)
 |res (v:TV) (cs:List TV) (facts:List Prop)
def sM.all:sM->(TV->List TV->List Prop->Prop)->Prop
 |.ex _ k,K=>∀x,(k x).all K
 |.res v cs fs,K=>K v cs fs
def sM.some:sM->(TV->List TV->List Prop->Prop)->Prop
 |.ex _ k,K=>∃x,(k x).some K
 |.res v cs fs,K=>K v cs fs
def sM.holds (s:sM)(v:TV)(cs:List TV):Prop:=s.some λv' lG fs=>v=v'/\cs=lG/\dB fs
def sM.uT (s:sM)(v:TV):Prop:=s.some λv' _ fs=>v=v'/\dB fs
def sM.AR (s:sM)(cs:List TV):Prop:=s.some λ_ lG fs=>cs=lG/\dB fs
abbrev Sp:=Option (List Prop×sM)
structure Bd where
 sl:List (Nat×TV)
 pl:List (Nat×List TV):=[]
 own:List (Nat×Nat):=[]
 en:List Prop:=[]
 mp:List (Nat×(Σkt:TT,List kt.den)):=[]
 m:Nat:=0
inductive LA:Type 1
 |ex (α:Type) (k:α->LA)
 |st (b:Bd)
 |un (n:Nat)
 |dep (f:List TV->List TB->LA)
 |pe (n:Nat) (a:LA)
def LA.abK:LA->Nat
 |.pe n _=>n
 |_=>0
def LA.inner:LA->LA
 |.pe _ a=>a
 |a=>a
def LA.at (la:LA)(te:List TV)(tS:List TB):LA:=
 match la with
 |.dep f=>f te tS
 |la=>la
def ait(te:List TV)(i:Nat)(k:List Int->LA):LA:=
 match te.getD i .unk with
 |.sl (.int .i64) l _=>k l
 |_=>.un 0
def LA.all:LA->(Bd->Prop)->Prop
 |.ex _ k,K=>∀x,(k x).all K
 |.st b,K=>K b
 |_,_=>True
def LA.some:LA->(Bd->Prop)->Prop
 |.ex _ k,K=>∃x,(k x).some K
 |.st b,K=>K b
 |_,_=>False
structure fQ where
 I:FuncId->List TV->Sp
 C:FuncId->List TV->List TV->Sp
 N:FuncId->List TV->Sp
 X:FuncId->Option (Func×List (Nat×LA)):=λ_=>none
 O:FuncId->List TV->Nat->Option (List Prop×TypeId×sM):=λ_ _ _=>none
 M:FuncId->List TV->List (List TV)->Sp:=λ_ _ _=>none
 me:Option FuncId:=none
 yp:List Tmp×Code×Code:=([],.skip,.skip)
 Y:List (Nat×LA):=[]
structure qF (T:fQ) (aI:bS) (call:bt):Prop where
 I:∀g a p s,T.I g a=some (p,s)->dB p->uM aI g a λv=>s.uT v
 C:∀g a c p s,T.C g a c=some (p,s)->dB p->B3 call g a c λv cs=>s.holds v cs
 N:∀g a p s,T.N g a=some (p,s)->dB p->DM aI call g a λcs=>s.AR cs
 O:∀g a f p e s,T.O g a f=some (p,e,s)->dB p->acv call g a f e λv=>s.uT v
 M:∀g a t p s,T.M g a t=some (p,s)->dB p->B1 call g a t λv t=>s.holds v (t.map .agg)
mutual
def gH(v:TV)(K:TV->Prop):Prop:=
 match v with
 |.unk=>K .unk
 |.val (.int k n)=>K (.val (.int k n))
 |.val (.bool b)=>K (.val (.bool b))
 |.val v=>K (.val v)
 |.au=>K .au
 |.agg l=>cZ l λl=>K (.agg l)
 |.tup l=>cZ l λl=>K (.tup l)
 |.sl t l ap=>K (.sl t l ap)
 |.ptr id off=>K (.ptr id off)
 |.fF t l i off=>K (.fF t l i off)
 |.mp id=>K (.mp id)
 |.so g t=>K (.so g t)
 |.sp g t i off=>K (.sp g t i off)
 |.oq k fn te=>cZ te λte=>K (.oq k fn te)
 |.fn f a b=>cZ a λa=>cZ b λb=>K (.fn f a b)
def cZ(l:List TV)(K:List TV->Prop):Prop:=
 match l with
 |[]=>K []
 |a::l=>gH a λa=>match rE a with
  |true=>K (a::l)
  |false=>cZ l λl=>K (a::l)
end
def bW(l:List TB)(K:List TB->Prop):Prop:=
 match l with
 |[]=>K []
 |.cells c::l=>cZ c λc=>bW l λl=>K (.cells c::l)
 |.none::l=>bW l λl=>K (.none::l)
 |.loop::l=>bW l λl=>K (.loop::l)
 |.own e s::l=>bW l λl=>K (.own e s::l)
 |.map kt c::l=>bW l λl=>K (.map kt c::l)
 |.rows t e c z::l=>bW l λl=>K (.rows t e c z::l)
def FK:List TV->Nat->TV->(List TV->Prop)->Prop
 |[],_,_,K=>K []
 |_::l,0,v,K=>K (v::l)
 |a::l,n+1,v,K=>FK l n v λl=>K (a::l)
def gy(te:List TV)(dst:Option Tmp)(v:TV)(K:List TV->Prop):Prop:=
 match dst with
 |some d=>FK te d v K
 |none=>K te
mutual
def Ys:TV->TV->Option (List Prop)
 |.unk,.unk=>some []
 |.val (.int k a),.val (.int k' b)=>if k=k' then some [a=b]else none
 |.val (.bool a),.val (.bool b)=>some [a=b]
 |.val a,.val b=>some [a=b]
 |.au,.au=>some []
 |.agg l,.agg m=>QY l m
 |.tup l,.tup m=>QY l m
 |.sl t l .no,.sl t' l' .no=>if h:t=t' then some [h▸l=l']else none
 |.sl t l .full,.sl t' l' .full=>if h:t=t' then some [h▸l=l']else none
 |.sl t l (.kA g),.sl t' l' (.kA g')=>if h:t=t' then if g=g' then some [h▸l=l']else none else none
 |.sl t l (.stop b),.sl t' l' (.stop b')=>if h:t=t' then if b=b' then some [h▸l=l']else none else none
 |.ptr i o,.ptr i' o'=>if i=i'/\o=o' then some []else none
 |.mp i,.mp i'=>if i=i' then some []else none
 |.oq k fn te,.oq k' vB bZ=>if k=k'/\fn=vB then QY te bZ else none
 |.so i t,.so i' t'=>if i=i'/\t=t' then some []else none
 |.fF t l i o,.fF t' l' i' o'=>if h:t=t' then some [h▸l=l',i=i',o=o']else none
 |.fn f a b,.fn f' a' b'=>if f=f' then match QY a a',QY b b' with
  |some x,some y=>some (x++y)
  |_,_=>none else none
 |_,_=>none
def QY:List TV->List TV->Option (List Prop)
 |[],[]=>some []
 |a::l,b::m=>match rE a with
  |true=>(Ys a b).map (·++[l=m])
  |false=>match Ys a b,QY l m with
   |some x,some y=>some (x++y)
   |_,_=>none
 |_,_=>none
end
mutual
def leT:TV->TV->Option (List Prop)
 |_,.unk=>some []
 |.sl t l _,.sl t' l' .no=>if h:t=t' then some [h▸l=l']else none
 |.sl t l _,.sl t' l' (.stop _)=>if h:t=t' then some [h▸l=l']else none
 |.sl t l .full,.sl t' l' (.kA _)=>match l with
  |[]=>if t=t' then some [[]=l']else none
  |_::_=>none
 |.au,.sl _ l _=>some [[]=l]
 |.agg l,.agg m=>H6 l m
 |v,u=>Ys v u
def H6:List TV->List TV->Option (List Prop)
 |[],[]=>some []
 |a::l,b::m=>match rE b with
  |true=>(leT a b).map (·++[jW m l])
  |false=>match leT a b,H6 l m with
   |some x,some y=>some (x++y)
   |_,_=>none
 |_,_=>none
end
def rz:List TB->List TB->Option (List Prop)
 |_,[]=>some []
 |_::l,.none::m=>rz l m
 |.loop::l,.loop::m=>rz l m
 |.cells a::l,.cells b::m=>match H6 a b,rz l m with
  |some x,some y=>some (x++y)
  |_,_=>none
 |.own e s::l,.own e' s'::m=>if e=e'/\s=s' then rz l m else none
 |.map kt a::l,.map kt' b::m=>if h:kt=kt' then match rz l m with
  |some y=>some ((h▸a=b)::y)
  |none=>none else none
 |.rows t e a z::l,.rows t' e' b z'::m=>if h:t=t' then if e=e'/\z=z' then match rz l m with
  |some y=>some ((h▸a=b)::y)
  |none=>none else none else none
 |[],.own _ _::m=>rz [] m
 |_,_=>none
def ask(o:Option (List Prop))(K:Prop):Prop:=
 match o with
 |some l=>AG l K
 |none=>False
section
variable (P:Program) (ty:fP) (tt:TypeId->Option TT) (T:fQ)
def dQ(n:Int):Prop:=-9223372036854775808<=n/\n<=9223372036854775807
def afN(a b:Int):Int:=
 match a with
 |.ofNat n=>IntKind.i64.wrap ((BitVec.ofInt 64 (.ofNat n)&&&BitVec.ofInt 64 b).toNat:Int)
 |.negSucc n=>IntKind.i64.wrap ((BitVec.ofInt 64 (.negSucc n)&&&BitVec.ofInt 64 b).toNat:Int)
def D6(te:List TV)(o:Oper):Option (TV×Prop):=
 match o.op with
 |.binOp .add _ x y _=>match fM te x,fM te y with
  |some (.val (.int .i64 a)),some (.val (.int .i64 b))=>some (.val (.int .i64 (a+b)),dQ (a+b))
  |_,_=>none
 |.binOp .sub _ x y _=>match fM te x,fM te y with
  |some (.val (.int .i64 a)),some (.val (.int .i64 b))=>some (.val (.int .i64 (a-b)),dQ (a-b))
  |_,_=>none
 |.binOp .mul _ x y _=>match fM te x,fM te y with
  |some (.val (.int .i64 a)),some (.val (.int .i64 b))=>some (.val (.int .i64 (a*b)),dQ (a*b))
  |_,_=>none
 |.unOp .neg _ x=>match fM te x with
  |some (.val (.int .i64 a))=>some (.val (.int .i64 (-a)),dQ (-a))
  |_=>none
 |.binOp .and _ x y _=>match fM te x,fM te y with
  |some (.val (.int .i64 a)),some (.val (.int .i64 b))=>some (.val (.int .i64 (afN a b)),True)
  |_,_=>none
 |_=>none
abbrev adm(xs ys:Array Value):List Field->Option Bool:=Kw P (eqV P 1) xs ys
def Ui(te:List TV)(o:Oper):Option Bool:=
 match o.op with
 |.binOp .neq t x y _=>match(fM te x).bind iL,(fM te y).bind iL with
  |some (.agg xs),some (.agg ys)=>match P.underlying t,P.stoodInHeld t,P.eqGuardType P.depth t with
   |some (.struct fs),false,false=>(adm P xs ys fs.toList).map λr=>!r
   |_,_,_=>none
  |_,_=>none
 |.binOp .eql t x y _=>match(fM te x).bind iL,(fM te y).bind iL with
  |some (.agg xs),some (.agg ys)=>match P.underlying t,P.stoodInHeld t,P.eqGuardType P.depth t with
   |some (.struct fs),false,false=>adm P xs ys fs.toList
   |_,_,_=>none
  |_,_=>none
 |_=>none
def AY(o:Oper):Bool:=
 match o.op with
 |.slice .. |.indexAddr .. =>true
 |.call {callee:=.builtin .append,.. }=>true
 |_=>false
def adu(te:List TV)(o:Oper):Option (Tmp×Int×Nat):=
 match o.op with
 |.indexAddr t _ (.tmp i)=>match ty t,te[i]? with
  |some ⟨.array k _ _,_,_⟩,some (.val (.int .i64 n))=>some (i,n,k)
  |_,_=>none
 |.index t _ (.tmp i)=>match ty t,te[i]? with
  |some ⟨.array k _ _,_,_⟩,some (.val (.int .i64 n))=>some (i,n,k)
  |_,_=>none
 |_=>none
def Nf(n:Int)(K:Nat->Prop):Nat->Nat->Prop
 |0,_=>False
 |c+1,j=>aO (decide (n=(j:Int))) (K j) (Nf n K c (j+1))
def acP(te:List TV)(o:Oper):Option (Bool×Prop):=
 match o.op with
 |.binOp .eql t x y _=>match ty t,fM te x,fM te y with
  |some ⟨.slice _ _ _ _,_,_⟩,some (.sl _ l _),some .au=>some (false,l≠[])
  |some ⟨.slice _ _ _ _,_,_⟩,some .au,some .au=>some (true,True)
  |_,_,_=>none
 |_=>none
def agr(o:Oper):Bool:=
 match o.op with
 |.binOp .neq .. |.binOp .eql .. =>true
 |_=>false
def O9(te:List TV)(o:Oper):Option (FuncId×List TV):=
 match o.op with
 |.call {callee:=.value f,args,argTypes}=>match fM te f,lV te args.toList with
  |some (.fn g fs cs),some xs=>if(fs++xs++cs).all eG then some (g,bG (gm tt fs argTypes) (fs++xs++cs))else none
  |_,_=>none
 |_=>none
def Nq(te:List TV)(tS:List TB)(o:Oper):Option (FuncId×Nat×List TV×List TV):=
 match o.op with
 |.call {callee:=.value f,args,argTypes}=>match fM te f,lV te args.toList with
  |some (.fn g fs cs),some xs=>match Uv (fs++xs++cs)with
   |some kp=>match yS kp (gm tt fs argTypes) (fs++xs++cs),tS[kp]? with
    |some targs,some (.cells ts)=>if(fs++xs++cs).any isRef&&(eH ts).isEmpty then some (g,kp,targs,ts)else none
    |_,_=>none
   |none=>none
  |_,_=>none
 |_=>none
def Nr(te:List TV)(tS:List TB)(o:Oper):Option (FuncId×Nat×List TV×List TV):=
 match o.op with
 |.call {callee:=.value f,args,argTypes}=>match fM te f,lV te args.toList with
  |some (.fn g fs cs),some xs=>match fs++xs++cs with
   |.ptr kp off::rest=>match tS[kp]? with
    |some (.cells ts)=>if rest.all eG&&ts.all kQ then some (g,kp,.ptr 0 off::bG (gm tt fs argTypes).tail rest,ts)else none
    |_=>none
   |_=>none
  |_,_=>none
 |_=>none
def aeu(md:Nat)(te:List TV)(tS:List TB)(o:Oper):Option (FuncId×Nat×List TV×List TV):=
 match md with
 |0=>Nq tt te tS o
 |2=>Nr tt te tS o
 |_=>none
def DI(md kp:Nat):dm:=
 match md with
 |2=>⟨some [kp],true⟩
 |_=>⟨none,true⟩
def Kt(md:Nat)(v:TV)(cs:List TV)(K:Prop):Prop:=
 match md with
 |2=>match BW v&&cs.all kQ with
  |true=>K
  |false=>False
 |_=>K
def afj(te:List TV)(o:Oper):Option (FuncId×List TV):=
 match o.op with
 |.call {callee:=.value f,args,argTypes:=_}=>match fM te f,lV te args.toList with
  |some (.fn g fs cs),some xs=>if(fs++xs++cs).any isRef||ty.h o==1 then some (g,fs++xs++cs)else none
  |_,_=>none
 |_=>none
def acT(md:Nat)(te:List TV)(o:Oper):Option (List TV×Func×List (Nat×LA)):=
 match md with
 |0=>match afj ty te o with
  |some (g,A)=>match T.X g with
   |some (fn,j)=>some (A,fn,j)
   |none=>none
  |none=>none
 |_=>none
structure Inl where
 c:Func->List (Nat×LA)->List TV->List TB->(TV->List TB->Prop)->Prop
 y:Nat->FuncId->List TV->List TV->List TB->(List TB->Prop)->Prop
 me:Option FuncId:=none
inductive Gd
 |no (b:Bool)
 |ask (d:Tmp) (b want:Bool)
 |unk
def gdT(ops:Array Oper)(te:List TV)(o:Oper):Gd:=
 match o.guard with
 |none=>.no true
 |some (j,want)=>match(ops[j]?).bind (·.dst)with
  |some d=>match te[d]? with
   |some (.val (.bool b))=>.ask d b want
   |some .unk=>.unk
   |some (.val _)=>.no false
   |_=>.unk
  |none=>.no false
abbrev KO:=List TV->List TB->List dm->Prop
def gG:dm:=⟨some [],false⟩
def oy(md n0 k:Nat)(tS:List TB):Nat:=
 match md with
 |2=>n0+k
 |_=>tS.length
variable (inl:Inl)
def UA(e nT f:Nat)(v:TV)(K:TV->TB->Prop):Prop:=
 match v with
 |.agg tl=>match tl[f]? with
  |some (.sl t Mu .no)=>K (.agg (tl.set f (.so nT t))) (.rows t e Mu false)
  |_=>False
 |_=>False
def OU:List TV->Option (List (List TV))
 |[]=>some []
 |.agg l::r=>(OU r).map (l::·)
 |_=>none
theorem GB:∀t:List (List TV),OU (t.map .agg)=some t
 |[]=>rfl
 |l::t=>by rw[aV,OU,GB t];rfl
def adt(L:List Nat)(cs:List TV)(K:List (List TV)->Prop):Prop:=
 match OU cs with
 |some t=>match HY L t with
  |some tB=>K tB
  |none=>False
 |none=>False
def Gw(md:Nat)(L:List Nat):dm:=
 match md with
 |2=>⟨some L,true⟩
 |_=>⟨none,true⟩
def It(md:Nat)(o:Oper)(te:List TV)(tS:List TB)(fs:List dm)(K:KO):Prop:=
 match Nt tt md te tS o with
 |some (g,L,targs,tP)=>match md==1,T.M g targs tP with
  |false,some (p,s)=>AG p (s.all λv cs facts=>impl facts (adt L cs λtB=>gH v λv=>gy te o.dst v λte=>bW (yD L tB tS) λtS=>K te tS (fs++[Gw md L])))
  |_,_=>False
 |none=>False
def Ip(md:Nat)(o:Oper)(te:List TV)(tS:List TB)(fs:List dm)(K:KO):Prop:=
 match aeu tt md te tS o with
 |some (g,kp,targs,ts)=>match T.C g targs ts with
  |some (p,s)=>AG p (s.all λv cs facts=>impl facts (Kt md v cs (gH v λv=>gy te o.dst v λte=>cZ cs λcs=>bW (tS.set kp (.cells cs)) λtS=>K te tS (fs++[DI md kp]))))
  |none=>It tt T md o te tS fs K
 |none=>It tt T md o te tS fs K
def acy(md:Nat)(te:List TV)(tS:List TB)(o:Oper):Option (Nat×FuncId×List TV×List TV):=
 match md==1,o.op with
 |false,.call {callee:=.value f,args,argTypes:=_}=>match fM te f with
  |some (.oq k fn Ao)=>match lV te args.toList,tS[k]? with
   |some xs,some .loop=>some (k,fn,Ao,xs)
   |_,_=>none
  |_=>none
 |_,_=>none
def acz(o:Oper)(te:List TV)(tS:List TB)(fs:List dm)(K:KO)(k:Nat)(jV:List TB):Prop:=
 aO (okB (te.map (uF tS k)) (pO k 0 tS (jV.set k .loop))&&(dI 0 tS).all (mb (pO k 0 tS (jV.set k .loop)))) (cZ (te.map (uF tS k)) λte=>gy te o.dst (.val (.bool true)) λte=>bW (pO k 0 tS (jV.set k .loop)) λtS=>K te tS (fs++[⟨none,true⟩])) False
def U3(md nT:Nat)(o:Oper)(te:List TV)(tS:List TB)(fs:List dm)(K:KO):Prop:=
 match acy md te tS o with
 |some (k,fn,Ao,xs)=>inl.y k fn Ao xs tS (acz o te tS fs K k)
 |none=>match acT ty T md te o with
 |some (A,fn,j)=>inl.c fn j A tS λv bN=>gH v λv=>cZ (gf tS te) λte=>gy te o.dst v λte=>K te bN fs
 |none=>match ty.h o==1 with
 |true=>match md,O9 tt te o with
  |0,none=>Ip tt T 0 o te tS fs K
  |2,some (g,targs)=>match T.O g targs (ty.TH o)with
   |some (p,e,s)=>AG p (s.all λv _ facts=>impl facts (UA e nT (ty.TH o) v λv b=>gH v λv=>gy te o.dst v λte=>bW (pK tS nT b) λtS=>K te tS (fs++[⟨some [nT],true⟩])))
   |none=>False
  |_,_=>False
 |false=>match O9 tt te o with
 |some (g,targs)=>match md==0,T.N g targs with
  |true,some (p,s)=>AG p (s.all λ_ cs facts=>impl facts (gy te o.dst (.ptr tS.length 0) λte=>K te (tS++[.cells cs]) fs))
  |_,_=>match T.I g targs with
   |some (p,s)=>AG p (s.all λv _ facts=>impl facts (gH v λv=>gy te o.dst v λte=>K te tS (fs++[gG])))
   |none=>False
 |none=>Ip tt T md o te tS fs K
def mapM(md:Nat)(te:List TV)(tS:List TB)(o:Oper):Option (TV×List TB×Prop):=
 match md with
 |0=>acQ P tt te tS o tS.length
 |_=>none
def abL(md:Nat)(te:List TV)(tS:List TB)(o:Oper)(nT:Nat):Option (TV×List TV×List TB×dm×Prop):=
 match Kh ty tt te tS o with
 |some (v,g,c)=>some (v,te,tS,⟨some [g],false⟩,c)
 |none=>if md=1 then none else match Uz ty tt te tS o with
  |some (g,bN)=>some (.unk,te,bN,⟨some [g],true⟩,True)
  |none=>if md=0 then(Uy ty tt te tS o nT).map λr=>(r.1,r.2.1,r.2.2.1,⟨none,true⟩,r.2.2.2)else none
def Za(md n0 k:Nat)(o:Oper)(te:List TV)(tS:List TB)(fs:List dm)(K:KO):Prop:=
 match Az tS (oy md n0 k tS)with
 |false=>False
 |true=>match aeG o with
  |true=>U3 ty tt T inl md (oy md n0 k tS) o te tS fs K
  |false=>match abL ty tt md te tS o (oy md n0 k tS)with
   |some (v,bZ,bN,f,c)=>c/\gH v λv=>cZ bZ λte=>gy te o.dst v λte=>bW bN λtS=>K te tS (fs++[f])
   |none=>match mapM P tt md te tS o with
   |some (v,bN,c)=>c/\gH v λv=>gy te o.dst v λte=>bW bN λtS=>K te tS (fs++[⟨none,true⟩])
   |none=>match D6 te o with
   |some (v,c)=>c/\gy te o.dst v λte=>K te tS (fs++[gG])
   |none=>match agr o,Ui P te o,acP ty te o with
    |true,some b,_=>gy te o.dst (.val (.bool b)) λte=>K te tS (fs++[gG])
    |true,none,some (b,c)=>c/\gy te o.dst (.val (.bool b)) λte=>K te tS (fs++[gG])
    |_,_,_=>match md with
     |1=>match bP P ty tt te tS o with
      |some q=>match AY o with
       |true=>q.2/\gH q.1 λv=>gy te o.dst v λte=>K te tS (fs++[gG])
       |false=>gH q.1 λv=>gy te o.dst v λte=>K te tS (fs++[gG])
      |none=>False
     |_=>match stepT P ty tt te tS o (oy md n0 k tS)with
      |some q=>match AY o with
       |true=>q.c/\gH q.v λv=>cZ q.te λte=>gy te o.dst v λte=>bW q.tS λtS=>K te tS (fs++[⟨some q.FQ,nU o⟩])
       |false=>gH q.v λv=>gy q.te o.dst v λte=>bW q.tS λtS=>K te tS (fs++[⟨some q.FQ,nU o⟩])
      |none=>False
def Y5(md nT:Nat)(o:Oper)(te:List TV)(tS:List TB)(fs:List dm)(K:KO):adv->Prop
 |.ix v c=>c/\gy te o.dst v λte=>K te tS (fs++[gG])
 |.ld0 id off t x=>aO (off==0) (gy te o.dst (.sl t x .no) λte=>K te tS (fs++[⟨some [id],false⟩])) False
 |.ld id off u c l b=>match b with
  |true=>∃(x:List u.den)(g:Nat),(c::l)[off]? =some (.sl u x (.kA g))/\gy te o.dst (.sl u x (.Cz g)) λte=>K te tS (fs++[⟨some [id],false⟩])
  |false=>∃x:List u.den,(c::l)[off]? =some (.sl u x .no)/\gy te o.dst (.sl u x .no) λte=>K te tS (fs++[⟨some [id],false⟩])
 |.st id off c l u y g=>match md==1 with
  |true=>False
  |false=>∃j,off=j+1/\j<l.length/\gy te o.dst .unk λte=>bW (tS.set id (.cells (c::Y9 l j (.sl u y (.kA g))))) λtS=>K te tS (fs++[⟨some [id],true⟩])
 |.ap e s g k l c=>match md==1,pU e s 0 tS with
  |false,(lo,n)=>(lo<=g/\g<lo+n)/\c/\cZ (gf tS te) λte=>gy te o.dst (.sl k l (.Cz g)) λte=>bW (Ii tS g tS) λtS=>K te tS (fs++[⟨some (nT::List.range' lo n),true⟩])
  |_,_=>False
def Q5(md n0 k:Nat)(o:Oper)(te:List TV)(tS:List TB)(fs:List dm)(K:KO):Prop:=
 match CD ty tt te tS o with
 |some q=>match Az tS (oy md n0 k tS)with
  |true=>Y5 md (oy md n0 k tS) o te tS fs K q
  |false=>False
 |none=>match adu ty te o with
 |some (t,n,c)=>Nf n (λj=>FK te t (.val (.int .i64 (j:Int))) λte=>Za P ty tt T inl md n0 k o te tS fs K) c 0
 |none=>Za P ty tt T inl md n0 k o te tS fs K
def opK(md n0 k:Nat)(o:Oper)(te:List TV)(tS:List TB)(fs:List dm)(K:KO):Prop:=
 match md,ty.h o with
 |0,2=>match MP ty te tS o with
  |some (te,tS)=>cZ te λte=>bW tS λtS=>Q5 P ty tt T inl md n0 k o te tS fs K
  |none=>False
 |_,_=>Q5 P ty tt T inl md n0 k o te tS fs K
def OX(o:Oper)(te:List TV)(tS:List TB)(fs:List dm)(K:KO):Prop:=gy te o.dst Q0 λte=>K te tS (fs++[gG])
def qD(md n0:Nat)(ops:Array Oper):List Oper->Nat->List TV->List TB->List dm->KO->Prop
 |[],_,te,tS,fs,K=>K te tS fs
 |o::r,k,te,tS,fs,K=>match gdT ops te o with
  |.no true=>opK P ty tt T inl md n0 k o te tS fs λte tS fs=>qD md n0 ops r (k+1) te tS fs K
  |.no false=>OX o te tS fs λte tS fs=>qD md n0 ops r (k+1) te tS fs K
  |.ask d b want=>match want with
   |true=>aO b (FK te d (.val (.bool true)) λte=>opK P ty tt T inl md n0 k o te tS fs λte tS fs=>qD md n0 ops r (k+1) te tS fs K) (FK te d (.val (.bool false)) λte=>OX o te tS fs λte tS fs=>qD md n0 ops r (k+1) te tS fs K)
   |false=>aO b (FK te d (.val (.bool true)) λte=>OX o te tS fs λte tS fs=>qD md n0 ops r (k+1) te tS fs K) (FK te d (.val (.bool false)) λte=>opK P ty tt T inl md n0 k o te tS fs λte tS fs=>qD md n0 ops r (k+1) te tS fs K)
  |.unk=>False
def aio(d:Option Tmp):Nat:=
 match d with
 |some d=>2^d
 |none=>0
def aex(o:Oper):Nat:=o.op.operands.foldl (λa x=>match x with|.tmp t=>a|||2^t|_=>a) 0
def defs:Code->Nat
 |.region _ ops _=>ops.foldl (λa o=>a|||aio o.dst) 0
 |.seq a b|.cond _ a b=>defs a|||defs b
 |.block _ c|.loop c|.scope c=>defs c
 |_=>0
def nV:Code->Nat
 |.region _ ops _=>ops.foldl (λa o=>a|||aex o) 0
 |.seq a b=>nV a|||nV b
 |.cond x a b=>(match x with|.tmp t=>2^t|_=>0)|||nV a|||nV b
 |.block _ c|.loop c|.scope c=>nV c
 |.rangeFunc x _ a b=>(match x with|.tmp t=>2^t|_=>0)|||nV a|||nV b
 |_=>0
def cnt:Code->Nat
 |.seq a b=>1+cnt a+cnt b
 |.cond _ a b=>cnt a+cnt b
 |.block _ c|.scope c=>cnt c
 |.loop c=>1+cnt c
 |_=>0
def oI(sl:List (Nat×TV))(keep:Nat):Nat->List TV->List TV
 |_,[]=>[]
 |i,v::l=>(match sl.find? λp=>p.1==i with
  |some p=>p.2
  |none=>match keep.testBit i with
   |true=>v
   |false=>.unk)::oI sl keep (i+1) l
def xe(sl:List (Nat×TV)):Nat->List TV->Option (List Prop)
 |_,[]=>some []
 |i,v::l=>match sl.find? λp=>p.1==i with
  |some p=>match leT v p.2,xe sl (i+1) l with
   |some x,some y=>some (x++y)
   |_,_=>none
  |none=>xe sl (i+1) l
abbrev MpL:=List (Nat×(Σkt:TT,List kt.den))
def uC(pl:List (Nat×List TV))(mp:MpL):Nat->List TB->List TB
 |_,[]=>[]
 |i,.cells c::l=>(match pl.find? λp=>p.1==i with
  |some p=>.cells p.2
  |none=>.cells c)::uC pl mp (i+1) l
 |i,.map kt c::l=>(match mp.find? λp=>p.1==i with
  |some (_,⟨kt',c'⟩)=>.map kt' c'
  |none=>.map kt c)::uC pl mp (i+1) l
 |i,.rows t e c z::l=>(match mp.find? λp=>p.1==i with
  |some (_,⟨t',c'⟩)=>.rows t' e c' z
  |none=>.rows t e c z)::uC pl mp (i+1) l
 |i,.own e s::l=>.own e s::uC pl mp (i+1) l
 |i,.none::l=>.none::uC pl mp (i+1) l
 |i,.loop::l=>.loop::uC pl mp (i+1) l
def jI(pl:List (Nat×List TV))(mp:MpL):Nat->List TB->Option (List Prop)
 |_,[]=>some []
 |i,.cells c::l=>match pl.find? λp=>p.1==i with
  |some p=>match H6 c p.2,jI pl mp (i+1) l with
   |some x,some y=>some (x++y)
   |_,_=>none
  |none=>jI pl mp (i+1) l
 |i,.map kt c::l=>match mp.find? λp=>p.1==i with
  |some (_,⟨kt',c'⟩)=>if h:kt=kt' then match jI pl mp (i+1) l with
   |some y=>some ((h▸c=c')::y)
   |none=>none else none
  |none=>jI pl mp (i+1) l
 |i,.rows t _ c _::l=>match mp.find? λp=>p.1==i with
  |some (_,⟨t',c'⟩)=>if h:t=t' then match jI pl mp (i+1) l with
   |some y=>some ((h▸c=c')::y)
   |none=>none else none
  |none=>jI pl mp (i+1) l
 |i,.own _ _::l=>jI pl mp (i+1) l
 |i,.none::l=>jI pl mp (i+1) l
 |i,.loop::l=>jI pl mp (i+1) l
def yP(b:Bd)(tS:List TB):List TB:=uC b.pl b.mp 0 tS++b.own.map λp=>.own p.1 p.2
abbrev KC:=DX->List TV->List TB->Prop
def acj(J:List (Nat×LA))(i:Nat)(te:List TV)(tS:List TB):Option LA:=
 match J.find? λp=>p.1==i with
 |some p=>some (p.2.at te tS)
 |none=>none
def VT(B:List Nat)(b:Bd)(keep:Nat)(te:List TV)(tS:List TB)(K:Prop):Prop:=
 aO (okB (oI b.sl keep 0 te) (yP b tS)&&B.all (mb (yP b tS))) (ask (xe b.sl 0 te) (ask (jI b.pl b.mp 0 tS) (AG b.en K))) False
def U4(B:List Nat)(mM:List TV)(iT:List TB)(b:Bd)(te:List TV)(tS:List TB)(K:Prop):Prop:=
 aO (okB mM iT&&B.all (mb iT)) (ask (H6 te mM) (ask (rz tS iT) (AG b.en K))) False
def unK(f:List TV->List TB->(List TV->List TB->Prop)->Prop)(K:List TV->List TB->Prop):Nat->List TV->List TB->Prop
 |0,te,tS=>K te tS
 |n+1,te,tS=>f te tS (unK f K n)
def Np(P:Program):Code->Option (Array Oper)
 |.region _ ops true=>if wZ P ops then none else some ops
 |_=>none
def VB(keep:Nat)(ops:Array Oper):Bool:=ops.toList.all λo=>match o.dst with
 |some d=>!keep.testBit d
 |none=>true
def Ut(x:Operand)(te:List TV)(v:Bool)(K:List TV->Prop):Prop:=
 match x with
 |.tmp t=>FK te t (.val (.bool v)) K
 |_=>K te
def Vx(tS:List TB)(k:Nat):Bool:=
 match tS[k]? with
 |some .loop=>true
 |_=>false
variable (B:List Nat) (J:List (Nat×LA))
def yu:Code->Nat->Nat->List TV->List TB->KC->Prop
 |.skip,_,_,te,tS,K|.label _,_,_,te,tS,K=>K .normal te tS
 |.exit id,_,_,te,tS,K=>K (.exit id) te tS
 |.ret,_,_,te,tS,K=>K .ret te tS
 |.scope c,i,lv,te,tS,K=>yu c i lv te tS K
 |.block id c,i,lv,te,tS,K=>yu c i lv te tS λe te tS=>match e with
  |.exit jd=>if jd=id then K .normal te tS else K (.exit jd) te tS
  |.normal=>K .normal te tS
  |.ret=>K .ret te tS
 |.cond x a b,i,lv,te,tS,K=>match fM te x with
  |some (.val (.bool t))=>aO t (Ut x te true λte=>yu a i lv te tS K) (Ut x te false λte=>yu b (i+cnt a) lv te tS K)
  |_=>False
 |.seq a b,i,lv,te,tS,K=>match acj J i te tS with
  |some la=>match Np P a with
   |some ops=>aO (mm ops (Region.before ops)&&VB ((lv|||nV b)&&&(2^400-1-(defs a))) ops) (qD P ty tt T inl 1 0 ops ops.toList 0 te tS [] λbZ _ _=>la.some λbd=>ask (xe bd.sl 0 bZ) (AG bd.en True)) False/\
    la.all λbd=>impl bd.en (cZ (oI bd.sl ((lv|||nV b)&&&(2^400-1-(defs a))) 0 te) λmM=>yu b (i+1+cnt a) lv mM tS K)
   |none=>yu a (i+1) (lv|||nV b) te tS (λe bZ bN=>match e with
    |.normal=>la.some λbd=>U4 B (oI bd.sl ((lv|||nV b)&&&(2^400-1-(defs a))) 0 te) (yP bd tS) bd bZ bN True
    |.exit id=>K (.exit id) bZ bN
    |.ret=>K .ret bZ bN)/\la.all λbd=>impl bd.en (cZ (oI bd.sl ((lv|||nV b)&&&(2^400-1-(defs a))) 0 te) λmM=>bW (yP bd tS) λiT=>yu b (i+1+cnt a) lv mM iT K)
  |none=>yu a (i+1) (lv|||nV b) te tS λe te tS=>match e with
   |.normal=>yu b (i+1+cnt a) lv te tS K
   |.exit id=>K (.exit id) te tS
   |.ret=>K .ret te tS
 |.loop c,i,lv,te,tS,K=>match acj J i te tS with
  |some la=>unK (λte tS K'=>yu c (i+1) (lv|||nV c) te tS λe te tS=>match e with
    |.normal=>K' te tS
    |.exit id=>K (.exit id) te tS
    |.ret=>K .ret te tS) (λte tS=>match la.inner.at te tS with
     |.un n=>unK (λte tS K'=>yu c (i+1) (lv|||nV c) te tS λe te tS=>match e with
      |.normal=>K' te tS
      |.exit id=>K (.exit id) te tS
      |.ret=>K .ret te tS) (λ_ _=>False) (min n 1000) te tS
     |la=>(la.some λbd=>VT B bd ((lv|||nV c)&&&(2^400-1-(defs c))) te tS (bd.m<1000000))/\
   la.all λbd=>impl bd.en (cZ (oI bd.sl ((lv|||nV c)&&&(2^400-1-(defs c))) 0 te) λmM=>bW (yP bd tS) λiT=>yu c (i+1) (lv|||nV c) mM iT λe bZ bN=>match e with
    |.normal=>la.some λbd'=>U4 B (oI bd'.sl ((lv|||nV c)&&&(2^400-1-(defs c))) 0 te) (yP bd' tS) bd' bZ bN (bd'.m<bd.m)
    |.exit id=>K (.exit id) bZ bN
    |.ret=>K .ret bZ bN)) (min la.abK 1000) te tS
  |none=>False
 |.region _ ops draw,_,_,te,tS,K=>match draw with
  |true=>match wZ P ops with
   |true=>aO (mm ops (Region.before ops)) (bW (tS++List.replicate ops.size .none) λnC=>qD P ty tt T inl 2 tS.length ops ops.toList 0 te nC [] λte tS fs=>aO (uA (Region.before ops) fs) (bW (oD tS) λtS=>K .normal te tS) False) False
   |false=>aO (mm ops (Region.before ops)) (qD P ty tt T inl 1 0 ops ops.toList 0 te tS [] λte _ _=>K .normal te tS) False
  |false=>qD P ty tt T inl 0 0 ops ops.toList 0 te tS [] λte tS _=>bW (oD tS) λtS=>K .normal te tS
 |.rangeFunc f _ _ _,_,_,te,tS,K=>match inl.me,fM te f with
  |some me,some (.fn g fs cs)=>match T.X g with
   |some (fn,j)=>inl.c fn j (fs++[.oq tS.length me (gf tS te)]++cs) (tS++[.loop]) λ_ bN=>aO (Vx bN tS.length&&!(eH (gf tS te)++oF bN).contains tS.length) (cZ (gf tS te) λte=>bW (bN.set tS.length .none) λtS=>K .normal te tS) False
   |none=>False
  |_,_=>False
 |_,_,_,_,_,_=>False
def adk(ty:fP)(rs:List ResultVar)(gW:List (Option TT))(s:sM)(te:List TV)(tS:List TB):Prop:=
 match xJ ty te tS rs with
 |some vs=>cZ (yJ tS vs) λvs=>aO (vs.all eG&&(refs (jB (bG gW vs))).isEmpty) (s.some λv _ facts=>ask (Ys (jB (bG gW vs)) v) (dB facts)) False
 |none=>False
def adl(ty:fP)(rs:List ResultVar)(gW om:List (Option TT))(s:sM)(te:List TV)(tS:List TB):Prop:=
 match xJ ty te tS rs,tS with
 |some vs,.cells ts::_=>aO (vs.all eG&&(refs (jB (bG gW vs))).isEmpty&&(ts.all eG&&(eH (bG om ts)).isEmpty)) (s.some λv cs facts=>ask (Ys (jB (bG gW vs)) v) (ask (QY (bG om ts) cs) (dB facts))) False
 |_,_=>False
def adj(ty:fP)(rs:List ResultVar)(gW:List (Option TT))(n:Nat)(s:sM)(te:List TV)(tS:List TB):Prop:=
 match xJ ty te tS rs,Kl n tS (List.range n)with
 |some vs,some t=>aO (vs.all eG&&BW (jB (bG gW vs))) (s.some λv cs facts=>ask (Ys (jB (bG gW vs)) v) (ask (QY (t.map .agg) cs) (dB facts))) False
 |_,_=>False
def UD(om:List (Option TT))(ts:List TV):List TV:=
 match om,ts with
 |[],a::l=>match rE a with
  |true=>kz none a::bG [] l
  |false=>bG [] (a::l)
 |om,ts=>bG om ts
def adi(ty:fP)(rs:List ResultVar)(om:List (Option TT))(s:sM)(te:List TV)(tS:List TB):Prop:=
 match xJ ty te tS rs,tS with
 |some [.ptr 0 0],.cells ts::_=>aO (ts.all eG&&(eH (bG om ts)).isEmpty) (s.some λ_ cs facts=>ask (QY (UD om ts) cs) (dB facts)) False
 |_,_=>False
def agP(f:Nat)(s:sM)(tl:List TV):Prop:=
 match tl[f]? with
 |some (.sl t' _ .no)=>aO (t'.sc&&(eH tl).isEmpty) (s.some λv _ facts=>ask (Ys (.agg tl) v) (dB facts)) False
 |_=>False
def agO(gW:List (Option TT))(f:Nat)(s:sM)(l:List TV):Prop:=
 match jB (bG gW [.agg l])with
 |.agg tl=>agP f s tl
 |_=>False
def agN(gW:List (Option TT))(f:Nat)(e:TypeId)(s:sM)(tS:List TB)(l:List TV):Prop:=
 match l[f]? with
 |some (.sl _ Mu (.kA g))=>match tS[g]? with
  |some (.own e' 1)=>aO (e'==e&&acO tS g f 0 l&&eG (.agg l)) (Mu≠[]/\agO gW f s l) False
  |_=>False
 |_=>False
def ail(ty:fP)(rs:List ResultVar)(gW:List (Option TT))(f:Nat)(e:TypeId)(s:sM)(te:List TV)(tS:List TB):Prop:=
 match xJ ty te tS rs with
 |some [.agg l]=>cZ l λl=>agN gW f e s tS l
 |_=>False
def M0(F:List TV->List TB->Prop)(e:DX)(te:List TV)(tS:List TB):Prop:=
 match e with
 |.exit _=>False
 |.normal=>F te tS
 |.ret=>F te tS
end
def vJ(rs:List ResultVar):Nat:=rs.foldl (λa x=>match x with|.tmp t=>a|||2^t|.cell t _=>a|||2^t) 0
def MQ(n:Nat)(l:List TV):List TV:=l++List.replicate (n-l.length) .unk
def mj(f:Func):Code:=f.body.getD .skip
def adh(ty:fP)(rs:List ResultVar)(K:TV->List TB->Prop)(te:List TV)(tS:List TB):Prop:=
 match xJ ty te tS rs with
 |some vs=>K (jB vs) tS
 |none=>False
def Q4(n:Nat)(tS:List TB):List TB:=tS++List.replicate (n-tS.length) .none
def ado(k:Nat)(tS:List TB)(K:List TB->Prop):Prop:=
 match tS[k]? with
 |some .none=>K tS
 |_=>False
def acA(P:Program)(ty:fP)(tt:TypeId->Option TT)(T:fQ)(inl:Inl)(k:Nat)(fn:FuncId)(Ao xs:List TV)(tS:List TB)(K:List TB->Prop):Prop:=
 match T.me,T.yp with
 |some me,(ps,oJ,body)=>aO (me==fn&&xs.length==ps.length&&!(eH (oE Ao (ps.zip xs))++oF tS).contains k) (cZ (oE Ao (ps.zip xs)) λte=>bW (tS.set k .none) λnC=>yu P ty tt T inl (oA k tS) T.Y oJ 0 (nV body) te nC λe te iT=>match e with
  |.normal=>yu P ty tt T inl (oA k tS) T.Y body (cnt oJ) 0 te iT λe _ jV=>match e with
   |.normal=>ado k (Q4 tS.length jV) K
   |_=>False
  |_=>False) False
 |none,_=>False
def Q7(P:Program)(ty:fP)(tt:TypeId->Option TT)(T:fQ):Nat->Inl
 |0=>⟨λ_ _ _ _ _=>False,λ_ _ _ _ _ _=>False,none⟩
 |d+1=>⟨λfn j A tS K=>cZ (MQ fn.ntmps A) λte=>yu P ty tt T (Q7 P ty tt T d) (dI 0 tS) j (mj fn) 0 (vJ fn.results.toList) te tS (M0 (adh ty fn.results.toList K)),acA P ty tt T (Q7 P ty tt T d),none⟩
def Q6(P:Program)(ty:fP)(tt:TypeId->Option TT)(T:fQ)(d:Nat):Inl:=⟨(Q7 P ty tt T d).c,(Q7 P ty tt T d).y,T.me⟩
end Go.Tv
