import Derived.Test.YtedcgbkilmlbhaaGreatPk08
namespace Go.Tv
open Go Go.Di Go.Proofs
def D2(tS:cx)(k:Nat):Option (TV×cp):=
 match tS[k]? with
 |some (.cells (a::l))=>match rL a with
  |true=>some (a,l)
  |false=>none
 |_=>none
def Nx(e s:Nat):cx->Nat
 |.own e' s'::l=>match e'==e&&s'==s with
  |true=>Nx e s l+1
  |false=>0
 |_=>0
def qM(e s:Nat):Nat->cx->Nat×Nat
 |i,[]=>(i,0)
 |i,b::l=>match Nx e s (b::l)with
  |0=>qM e s (i+1) l
  |n+1=>(i,n+1)
def IB(tS:cx)(g:Nat):cx->cx
 |[]=>[]
 |.cells l::m=>.cells (match l with
  |[]=>[]
  |a::l=>match rL a with
   |true=>a::kL g l
   |false=>gn tS (a::l))::IB tS g m
 |b::m=>b::IB tS g m
def aai(l:cp)(j:Nat)(v:TV):cp:=l.set j v
inductive aeH where
 |ix (v:TV) (c:Prop)
 |ld0 (id off:Nat) (t:TT) (x:List t.den)
 |ld (id off:Nat) (u:TT) (c:TV) (l:cp) (b:Bool)
 |st (id off:Nat) (c:TV) (l:cp) (u:TT) (y:List u.den) (g:Nat)
 |ap (e s g:Nat) (k:TT) (l:List k.den) (c:Prop)
def afv:TV->Bool
 |.sl _ _ (.stop b)=>b
 |_=>false
def agD(u:TT):TV->Option (List u.den)
 |.sl t l _=>if h:t=u then some (h▸l)else none
 |_=>none
section
variable (P:Program) (ty:gb) (tt:TypeId->cJ)
def CM(te:cp)(tS:cx)(o:Oper):Option aeH:=
 match o.op with
 |.indexAddr t x i=>match fT te x with
  |some (.ptr id off)=>match D2 tS id with
   |some _=>match ty t,Ir te i with
    |some ⟨.array k s _,_,_⟩,some n=>some (.ix (.ptr id (n.toNat*s+off)) (0<=n/\n<(k:Int)))
    |_,_=>none
   |none=>none
  |_=>none
 |.load t a=>match fT te a with
  |some (.ptr id off)=>match D2 tS id with
   |some (c,l)=>match ty t,tt t with
    |some d,some (.sl u)=>match d.k.isAgg with
     |true=>none
     |false=>match agD u c with
      |some x=>some (.ld0 id off u x)
      |none=>some (.ld id off u c l (afv c))
    |_,_=>none
   |none=>none
  |_=>none
 |.store t a x=>match fT te a with
  |some (.ptr id off)=>match D2 tS id with
   |some (c,l)=>match ty t,fT te x with
    |some d,some (.sl u y (.CG g))=>match d.size==1 with
     |true=>some (.st id off c l u y g)
     |false=>none
    |_,_=>none
   |none=>none
  |_=>none
 |.call {callee:=.builtin .append,args,argTypes}=>match args.toList,argTypes.toList with
  |[x,y],[t,u]=>match fT te x with
   |some (.sl k l (.CG g))=>if t=u/\ty.h o≠1 then match ty t,(fT te y).map (fV tt t)with
    |some ⟨.slice e s mh _,_,_⟩,some (.sl k' m _)=>match ty e with
     |some ⟨_,_,some _⟩=>if h:k'=k then
      if decide (0<s)&&decide (mh<=100000)&&k.size==s then some (.ap e s g k (l++(h▸m)) (l.length+m.length<=1000000000))else none
      else none
     |_=>none
    |_,_=>none
    else none
   |_=>none
  |_,_=>none
 |_=>none
end
variable {P:Program} {ty:gb} {tt:TypeId->cJ} {ι ι' w:lp} {S S':ai} {te cr:cp} {env:cj} {tS bU:cx} {aI:b9} {call:bG} {yf:ez} {o:Oper} {aC nT:Nat} {B:cy} {ops:Array Oper}
def UE(u v:TV):Prop:=∀ι S d,RT ι S v d->RT ι S u d
def DC(l m:cp):Prop:=∀ι S ds,cO ι S m ds->cO ι S l ds
def U5(bU tS:cx):Prop:=∀k:Nat,bU[k]? =tS[k]? \/∃a b,bU[k]? =some (.cells a)/\tS[k]? =some (.cells b)/\DC a b
theorem DC.refl (l:cp):DC l l:=λ_ _ _ h=>h
theorem UE.refl (v:TV):UE v v:=λ_ _ _ h=>h
theorem U5.refl (tS:cx):U5 tS tS:=λ_=>.inl rfl
theorem vW{u v:TV}{l m:cp}(h:UE u v)(k:DC l m):DC (u::l) (v::m):=λι S ds hd=>by obtain⟨d,m',rfl,h1,h2⟩:=aj hd;exact aR (h _ _ _ h1) (k _ _ _ h2)
theorem NU{u v:TV}(h:UE u v):∀(i:Nat)(l:cp),DC (l.set i u) (l.set i v)
 |_,[]=>DC.refl _
 |0,_::l=>vW h (DC.refl l)
 |i+1,a::l=>vW (UE.refl a) (NU h i l)
theorem afe{u v:TV}(h:UE u v)(dst:Option Tmp)(l:cp):DC (kC l dst u) (kC l dst v):=by
 cases dst with
 |none=>exact DC.refl _
 |some d=>exact NU h d l
theorem N6(h:bZ ι te tS env S)(h1:DC cr te)(h2:U5 bU tS):bZ ι cr bU env S:=by
 refine⟨h1 _ _ _ h.env,λk l hk=>?_,λk e s hk=>?_,λk k' hk=>?_,h.inj,λk b hk t ht=>?_⟩;rcases h2 k with e|⟨a,b,e1,e2,e3⟩;exact h.cells k l (e▸hk);rw[e1]at hk;cases hk;obtain⟨k',ds,n1,n2,n3⟩:=h.cells k b e2;exact⟨k',ds,n1,n2,e3 _ _ _ n3⟩;rcases h2 k with e'|⟨a,b,e1,e2,e3⟩;exact h.own k e s (e'▸hk)
 grind
 obtain⟨b,n1,n2⟩:=h.qB k k' hk;rcases h2 k with e|⟨a,b',e1,e2,e3⟩
 grind
 grind
 rcases h2 k with e|⟨a,b',e1,e2,e3⟩;exact h.mp k b (e▸hk) t ht;rw[e1]at hk;cases hk;trivial
theorem agm(h:oT B tS)(h2:U5 bU tS):oT B bU:=λk hk=>by
 obtain⟨l,h1⟩:=h k hk;rcases h2 k with e|⟨a,b',e1,e2,e3⟩
 grind
 exact⟨some a,e1⟩
theorem ahf{k:Nat}{Q:cp->Prop}(h:DC cr te)(hq:WQ P ty aI call yf ops tS k cr Q):WQ P ty aI call yf ops tS k te Q:=
 λι env S hR=>hq ι env S (N6 hR h (U5.refl _))
theorem Dp{dr:Bool}{Q Q':TV->cp->cx->dz->Prop}(h:Does P ty aI call yf B o nT te tS dr Q)(hq:∀v cr bU ft,Q v cr bU ft->∃v2 UJ jW ft2,UE v2 v/\DC UJ cr/\U5 jW bU/\(ft.wr=true->ft2.wr=true)/\(∀l,ft2.ids=some l->∃l',ft.ids=some l'/\∀j∈l',j∈l)/\Q' v2 UJ jW ft2):Does P ty aI call yf B o nT te tS dr Q':=by
 intro ι w env S aC hR hB hw hT hn hS;obtain⟨d,S',ι',w',v,cr,bU,f,ft,h1,h2,h3,h4,h5,h6,h7,h8,h9,uG,Ig,Zx⟩:=h ι w env S aC hR hB hw hT hn hS;obtain⟨v2,UJ,jW,ft2,q1,q2,q3,q4,q5,q6⟩:=hq _ _ _ _ Zx;refine⟨d,S',ι',w',v2,UJ,jW,f,ft2,h1,h2,⟨λe=>q4 (h3.1 e),λl hl=>?_⟩,λl m hl hm=>?_,N6 h5 q2 q3,q1 _ _ _ h6,h7,h8,h9,agm uG q3,Ig,q6⟩;obtain⟨l',e1,e2⟩:=q5 l hl;obtain⟨m,e3,e4⟩:=h3.2 l' e1;exact⟨m,e3,λj hj=>(e4 j hj).imp λi hi=>⟨e2 _ hi.1,hi.2⟩⟩
 grind
theorem Y4{dr:Bool}{Q:TV->cp->cx->dz->Prop}(h1:DC cr te)(h:Does P ty aI call yf B o nT cr tS dr Q):Does P ty aI call yf B o nT te tS dr Q:=
 λι w env S aC hR=>h ι w env S aC (N6 hR h1 (U5.refl _))
theorem Bi{k:Nat}{a:TV}{l:cp}(h:D2 tS k=some (a,l)):tS[k]? =some (.cells (a::l))/\rL a=true:=by
 unfold D2 at h;split at h
 grind
 cases h
def pV:TV->TV
 |.sl t l (.CG g)=>.sl t l (.iT g)
 |v=>v
theorem Xw(v:TV)(d:DV):RT ι S (pV v) d↔RT ι S v d:=by
 unfold pV;split;cases d<;>simp only[RT,pU]
 grind
theorem Lf:∀l:cp,DC (l.map pV) l
 |[]=>DC.refl _
 |a::l=>vW (λ_ _ _ h=>(Xw a _).2 h) (Lf l)
theorem HP{x:Operand}{v:TV}(h:fT te x=some v):fT (te.map pV) x=some (pV v):=by
 cases x with
 |tmp t=>simp only[fT,aG]at h⊢;subst h;rw[aU,aU,dG];cases te[t]?<;>rfl
 |const v0=>
  simp only[fT,ah]at h⊢;obtain⟨d,h1,rfl⟩:=h;refine⟨d,h1,?_⟩;have h1:∀d,pV (ur d)=ur d:=λd=>by unfold ur;split<;>rfl
  unfold aal;split;rfl;rfl
  grind
 |func f=>simp only[fT,aG]at h⊢;subst h;rfl
 |global _=>simp[fT]at h
theorem JY{t:TypeId}{v v':TV}(h:fV tt t v=v'):fV tt t (pV v)=pV v':=by
 subst h;cases v with
 |ax=>simp only[pV,fV];split<;>rfl
 |sl t l ap=>cases ap<;>rfl
 |_=>rfl
mutual
theorem EM{g e s:Nat}(hg:tS[g]? =some (.own e s)):∀(v:TV)(d:DV),RT ι S (uH g v) d->RT ι S (eN tS v) d
 |.unk,_,_=>by simp only[eN,RT]
 |.val _,d,k=>by simpa only[uH,eN]using k
 |.ax,d,k=>by simpa only[uH,eN]using k
 |.agg l,d,k=>by cases d<;>simp only[uH,eN,RT]at k⊢;exact pO hg l _ k
 |.tup l,d,k=>by cases d<;>simp only[uH,eN,RT]at k⊢;exact pO hg l _ k
 |.sl t l .no,d,k=>by simpa only[uH,eN]using k
 |.sl t l .full,d,k=>by simpa only[uH,eN]using k
 |.sl t l (.stop b),d,k=>by simpa only[uH,eN]using k
 |.sl t l (.CG _),d,k=>by simpa only[uH,eN]using k
 |.sl t l (.iT j),d,k=>by simp only[uH]at k;simp only[eN];split at k;exact k;cases d<;>simp only[RT]at k⊢;exact⟨k.1,trivial⟩
 |.ptr id off,d,k=>by simp only[uH]at k;simp only[eN];split;rename_i hc;rw[if_neg]at k;exact k;rintro rfl;simp only[j5,hg]at hc;cases hc;simp only[RT]
 |.fM t l i off,d,k=>by simpa only[uH,eN]using k
 |.mp id,d,k=>by simp only[eN,RT]
 |.so g t,d,k=>by simp only[eN,RT]
 |.sp g t i off,d,k=>by simp only[eN,RT]
 |.oz k0 fn te,d,k=>by simp only[eN,RT]
 |.fn f a b,d,k=>by cases d<;>simp only[uH,eN,RT]at k⊢;exact⟨k.1,pO hg a _ k.2.1,pO hg b _ k.2.2⟩
theorem pO{g e s:Nat}(hg:tS[g]? =some (.own e s)):∀(l:cp)(m:cj),cO ι S (kL g l) m->cO ι S (gn tS l) m
 |[],m,k=>k
 |a::l,m,k=>by simp only[kL]at k;obtain⟨d,m',rfl,h1,h2⟩:=aj k;simp only[gn];exact aR (EM hg a d h1) (pO hg l m' h2)
end
theorem Fp{g e s:Nat}(hg:tS[g]? =some (.own e s)):∀l:cp,DC (gn tS l) (kL g (l.map pV))
 |[]=>DC.refl _
 |a::l=>by simp only[aY,kL,gn];refine vW (λι S d h=>?_) (Fp hg l);unfold pV at h;split at h;rename_i t l0 g0;have:=EM hg (.sl t l0 (.iT g0)) d h;simpa only[eN]using this;exact EM hg a d h
theorem Rw{g e s:Nat}(hg:tS[g]? =some (.own e s)):∀m:cx,U5 (IB tS g m) (m.map (qH g))
 |[]=>U5.refl _
 |b::m=>by
  have ih:=Rw hg m;intro k;cases b with
  |cells l=>
   simp only[IB,aY,qH];cases k with
   |zero=>
    refine .inr ⟨_,_,rfl,rfl,?_⟩;cases l with
    |nil=>exact DC.refl _
    |cons a l=>
     simp only;split
     .rename_i hs;simp only[kL];refine vW (λι S d h=>?_) (DC.refl _);cases a<;>first|(cases hs;done)|skip
      rename_i t x ap;cases ap<;>first|(cases hs;done)|skip
      simpa only[uH]using h
     exactλι S ds h=>pO hg (a::l) ds h
   |succ k=>simpa using ih k
  |_=>
   simp only[IB,aY,qH];cases k with
   |zero=>exact .inl rfl
   |succ k=>simpa using ih k
theorem Ql{e s:Nat}:∀{l:cx}{j:Nat},j<Nx e s l->l[j]? =some (.own e s)
 |[],_,h=>by simp[Nx]at h
 |b::l,j,h=>by
  cases b with
  |own e' s'=>
   simp only[Nx]at h;split at h;rename_i hc;simp only[aD,ee]at hc;obtain⟨rfl,rfl⟩:=hc;cases j with
   |zero=>rfl
   |succ j=>simpa using Ql (l:=l) (j:=j) ab
   omega
  |_=>simp only[Nx]at h;omega
theorem LN{e s:Nat}:∀{l:cx}{i g:Nat},(qM e s i l).1<=g->g<(qM e s i l).1+(qM e s i l).2->i<=g/\l[g-i]? =some (.own e s)
 |[],i,g,h1,h2=>by simp only[qM]at h1 h2;omega
 |b::l,i,g,h1,h2=>by
  simp only[qM]at h1 h2;cases hr:Nx e s (b::l)with
  |zero=>rw[hr]at h1 h2;obtain⟨q1,q2⟩:=LN h1 h2;refine⟨ab,?_⟩;rw[show g-i=(g-(i+1))+1 by omega];simpa using q2
  |succ n=>rw[hr]at h1 h2;simp only at h1 h2;exact⟨h1,Ql ab⟩
theorem Ye{c v:TV}{l:cp}{j:Nat}(hj:j<l.length):Ny (c::l) (j+1) [v]=some (c::l.set j v):=by unfold Ny;rw[if_pos (by simp;omega)];simp only[List.take_succ_cons,pq,di,lB,iw,List.drop_succ_cons,aG,List.cons.injEq,true_and];rw[iO,List.singleton_append,List.set_eq_take_append_cons_drop,if_pos hj]
theorem afr{v:TV}{c:Prop}(h:CM ty tt te tS o=some (.ix v c))(hc:c):bX P ty tt te tS o=some (v,True)/\(∃t x i,o.op=.indexAddr t x i):=by unfold CM at h;split at h;rename_i t x i ho;refine⟨?_,_,_,_,ho⟩;split at h;rename_i id off e2;split at h;split at h;rename_i k s agg sz z n e1 e3;cases h;simp only[bX,ho,e1,e2,e3,az,fV];rw[if_pos ⟨hc.1,ab⟩,nO];cases h;cases h;cases h;all_goals (repeat' split at h)<;>cases h
theorem abd{id off:Nat}{t:TT}{x:List t.den}(h:CM ty tt te tS o=some (.ld0 id off t x))(hc:off=0):(∃ap,bX P ty tt te tS o=some (.sl t x ap,True))/\lJ te o=[id]/\∃t a,o.op=.load t a:=by
 unfold CM at h;split at h
 grind
 .rename_i tl a ho;split at h
  .rename_i jf s6 e3;split at h
   .rename_i c l hs;obtain⟨k1,k2⟩:=Bi hs;split at h
    rotate_left
    cases h;rename_i d u e1 e2;split at h;cases h;rename_i aeq;split at h;rename_i x' hx;cases h;subst hc;unfold agD at hx;split at hx;rename_i t' l' R3;split at hx;rename_i ht;subst ht;cases hx;exact⟨⟨R3,by simp only[bX,ho,e1,e3,k1,xm,aeq,aK,if_false,eu,az,fV]⟩,by simp only[lJ,ho,e3],_,_,ho⟩;cases hx;cases hx;cases h
   cases h
  cases h
 all_goals (repeat' split at h)<;>cases h
theorem Ws{id off:Nat}{u:TT}{c:TV}{l:cp}{b:Bool}(h:CM ty tt te tS o=some (.ld id off u c l b)){x:List u.den}{ap:Ap}(hx:(c::l)[off]? =some (.sl u x ap)):bX P ty tt te tS o=some (.sl u x ap,True)/\lJ te o=[id]/\∃t a,o.op=.load t a:=by
 unfold CM at h;split at h
 grind
 .rename_i tl a ho;split at h
  .rename_i jf s6 e3;split at h
   .rename_i c l hs;obtain⟨k1,k2⟩:=Bi hs;split at h
    rotate_left
    cases h;rename_i d u e1 e2;split at h;cases h;rename_i aeq;split at h;cases h;cases h;exact⟨by simp only[bX,ho,e1,e3,k1,xm,aeq,aK,if_false,hx,az,fV],by simp only[lJ,ho,e3],_,_,ho⟩
   cases h
  cases h
 all_goals (repeat' split at h)<;>cases h
theorem EY{v:TV}(hp:bX P ty tt te tS o=some (v,True))(ho:(∃t x i,o.op=.indexAddr t x i)\/∃t a,o.op=.load t a):stepT P ty tt te tS o nT=some ⟨v,te,tS,lJ te o,True⟩/\nZ o=false:=by rcases ho with ⟨t,x,i,ho⟩|⟨t,a,ho⟩;exact⟨by simp only[stepT,ho,hp,az],by simp only[nZ,ho]⟩;exact⟨by simp only[stepT,ho,hp,az],by simp only[nZ,ho]⟩
theorem aco{id off:Nat}{c:TV}{l:cp}{u:TT}{y:List u.den}{g j:Nat}(h:CM ty tt te tS o=some (.st id off c l u y g))(ho:off=j+1)(hj:j<l.length)(dr:Bool):Does P ty aI call yf B o nT te tS dr λv cr bU ft=>v=.unk/\cr=te/\bU=tS.set id (.cells (c::l.set j (.sl u y (.iT g))))/\ft=⟨some [id],true⟩:=by
 unfold CM at h;split at h
 grind
 ·(repeat' split at h)<;>cases h
 .rename_i t a x hop;split at h
  .rename_i jf s6 e2;split at h
   .rename_i c' l' hs;obtain⟨k1,k2⟩:=Bi hs;split at h
    rotate_left
    cases h;rename_i d u' y' g' e1 e3;split at h;rename_i hd;cases h;subst ho;have hst:stepT P ty tt te tS o nT=some ⟨.unk,te,tS.set id (.cells (c::l.set j (.sl u y (.CG g)))),[id],True⟩:=by
     have yH:d.size=1:=by simpa using hd
     have hr:fV tt t (.sl u y (.CG g))=.sl u y (.CG g):=rfl;simp only[stepT,hop,e1,e2,e3,az,hr,k1,TV.known,TV.cells,pG,cC,List.all_nil,adZ,qW,yH,zD,if_true,Ye hj,az]
    refine Dp (lY hst trivial dr) ?_;rintro v cr bU ft ⟨rfl,rfl,rfl,rfl⟩;refine⟨.unk,_,_,⟨some [id],true⟩,UE.refl _,DC.refl _,λk=>?_,λ_=>rfl,λl h=>⟨l,h,λ_ h=>h⟩,rfl,rfl,rfl,rfl⟩;rw[aS,aS];split;split;refine .inr ⟨_,_,rfl,rfl,vW (UE.refl _) (NU (λι S d h=>?_) j l)⟩;cases d<;>simp only[RT,pU]at h⊢;exact h
    grind
    grind
    cases h
   cases h
  cases h
 all_goals (repeat' split at h)<;>cases h
theorem acp{e s g:Nat}{k:TT}{l:List k.den}{c:Prop}(h:CM ty tt te tS o=some (.ap e s g k l c))(hc:c)(h1:(qM e s 0 tS).1<=g)(h2:g<(qM e s 0 tS).1+(qM e s 0 tS).2)(dr:Bool):Does P ty aI call yf B o nT te tS dr λv cr bU ft=>v=.sl k l (.CG g)/\cr=gn tS te/\bU=IB tS g tS/\ft=⟨some (nT::List.range' (qM e s 0 tS).1 (qM e s 0 tS).2),true⟩:=by
 obtain⟨-,hg⟩:=LN h1 h2;rw[Nat.sub_zero]at hg;unfold CM at h;split at h;iterate 3 (· (repeat' split at h)<;>cases h)
 .rename_i args argTypes hop;split at h
  .rename_i x y t u ha ht;split at h
   rotate_left
   cases h;rename_i k1 l0 g0 e2;split at h;rename_i Ut;split at h;rename_i e0 s0 mh agg sz z0 k0 m ap1 e1 e3;split at h;rename_i k' sz' z e4;split at h;rename_i hk;subst hk;split at h;rename_i hb;cases h;simp only[ah]at e3;obtain⟨v1,f1,f2⟩:=e3;have hst:stepT P ty tt (te.map pV) tS o nT=some ⟨.sl k (l0++m) (.iT g),kL g (te.map pV),tS.map (qH g),[g,nT],l0.length+m.length<=1000000000⟩:=by
    have hx:=HP e2;have hy:=HP f1;have hr:fV tt t (.sl k l0 (.iT g))=.sl k l0 (.iT g):=rfl;have Kq:=JY (tt:=tt) f2;have hu:∃ap2,pV (TV.sl k m ap1)=.sl k m ap2:=by cases ap1<;>exact⟨_,rfl⟩
    obtain⟨ap2,hu⟩:=hu;rw[hu]at Kq;have kG:fT (te.map pV) x=some (.sl k l0 (.iT g)):=hx;obtain⟨rfl,hh⟩:=Ut;simp only[stepT,hop,ha,ht,hh,ne_eq,not_false_eq_true,and_self,if_true,e1,kG,hy,az,hr,Kq,e4,dite_true,hb,hg,zD,jo]
   refine Y4 (Lf te) (Dp (lY hst hc dr) ?_);rintro v cr bU ft ⟨rfl,rfl,rfl,rfl⟩;refine⟨_,_,_,_,λι S d h=>?_,Fp hg te,Rw hg tS,λ_=>rfl,λl' kP=>⟨_,rfl,λj hj=>?_⟩,rfl,rfl,rfl,rfl⟩;cases d<;>simp only[RT,pU]at h⊢;exact h
   grind
   cases h;cases h;cases h;cases h;cases h
  cases h
 cases h
end Go.Tv
namespace Go.Tv
open Go Go.Di Go.Proofs
def aB(b:Bool)(A B:Prop):Prop:=
 match b with
 |true=>A
 |false=>B
def AY:List Prop->Prop->Prop
 |[],R=>R
 |p::l,R=>p/\AY l R
def dA:List Prop->Prop
 |[]=>True
 |p::l=>p/\dA l
def impl:List Prop->Prop->Prop
 |[],R=>R
 |p::l,R=>p->impl l R
inductive uk:Type 1
 |ex (α:Type) (k:α->uk)
 |res (v:TV) (cs:cp) (facts:List Prop)
def uk.all:uk->(TV->cp->List Prop->Prop)->Prop
 |.ex _ k,K=>∀x,(k x).all K
 |.res v cs fs,K=>K v cs fs
def uk.some:uk->(TV->cp->List Prop->Prop)->Prop
 |.ex _ k,K=>∃x,(k x).some K
 |.res v cs fs,K=>K v cs fs
def uk.holds (s:uk)(v:TV)(cs:cp):Prop:=s.some λv' iZ fs=>v=v'/\cs=iZ/\dA fs
def uk.oI (s:uk)(v:TV):Prop:=s.some λv' _ fs=>v=v'/\dA fs
def uk.A8 (s:uk)(cs:cp):Prop:=s.some λ_ iZ fs=>cs=iZ/\dA fs
abbrev Sp:=Option (List Prop×uk)
structure Bd where
 sl:List (Nat×TV)
 pl:List (Nat×cp):=[]
 own:List (Nat×Nat):=[]
 cQ:List Prop:=[]
 mp:List (Nat×(Σkt:TT,List kt.den)):=[]
 m:Nat:=0
inductive LA:Type 1
 |ex (α:Type) (k:α->LA)
 |st (b:Bd)
 |un (n:Nat)
 |dep (f:cp->cx->LA)
 |pe (n:Nat) (a:LA)
def LA.ac4:LA->Nat
 |.pe n _=>n
 |_=>0
def LA.inner:LA->LA
 |.pe _ a=>a
 |a=>a
def LA.at (la:LA)(te:cp)(tS:cx):LA:=
 match la with
 |.dep f=>f te tS
 |la=>la
def aj8(te:cp)(i:Nat)(k:br->LA):LA:=
 match te.getD i .unk with
 |.sl (.int .i64) l _=>k l
 |_=>.un 0
def LA.all:LA->(Bd->Prop)->Prop
 |.ex _ k,K=>∀x,(k x).all K
 |.st b,K=>K b
 |_,_=>True
def LA.some:LA->(Bd->Prop)->Prop
 |.ex _ k,K=>∃x,(k x).some K
 |.st b,K=>K b
 |_,_=>False
structure eM where
 I:FuncId->cp->Sp
 C:FuncId->cp->cp->Sp
 N:FuncId->cp->Sp
 X:FuncId->Option (Func×List (Nat×LA)):=λ_=>none
 O:FuncId->cp->Option (List Prop×TypeId×uk):=λ_ _=>none
 M:FuncId->cp->List cp->Sp:=λ_ _ _=>none
 me:Option FuncId:=none
 yp:List Tmp×Code×Code:=([],.skip,.skip)
 Y:List (Nat×LA):=[]
structure qP (T:eM) (aI:b9) (call:bG):Prop where
 I:∀g a p s,T.I g a=some (p,s)->dA p->vc aI g a λv=>s.oI v
 C:∀g a c p s,T.C g a c=some (p,s)->dA p->Cc call g a c λv cs=>s.holds v cs
 N:∀g a p s,T.N g a=some (p,s)->dA p->DZ aI call g a λcs=>s.A8 cs
 O:∀g a p e s,T.O g a=some (p,e,s)->dA p->P0 call g a e λv=>s.oI v
 M:∀g a t p s,T.M g a t=some (p,s)->dA p->Ca call g a t λv t=>s.holds v (t.map .agg)
mutual
def gI(v:TV)(K:TV->Prop):Prop:=
 match v with
 |.unk=>K .unk
 |.val (.int k n)=>K (.val (.int k n))
 |.val (.bool b)=>K (.val (.bool b))
 |.val v=>K (.val v)
 |.ax=>K .ax
 |.agg l=>dx l λl=>K (.agg l)
 |.tup l=>dx l λl=>K (.tup l)
 |.sl t l ap=>K (.sl t l ap)
 |.ptr id off=>K (.ptr id off)
 |.fM t l i off=>K (.fM t l i off)
 |.mp id=>K (.mp id)
 |.so g t=>K (.so g t)
 |.sp g t i off=>K (.sp g t i off)
 |.oz k fn te=>dx te λte=>K (.oz k fn te)
 |.fn f a b=>dx a λa=>dx b λb=>K (.fn f a b)
def dx(l:cp)(K:cp->Prop):Prop:=
 match l with
 |[]=>K []
 |a::l=>gI a λa=>match rL a with
  |true=>K (a::l)
  |false=>dx l λl=>K (a::l)
end
def ck(l:cx)(K:cx->Prop):Prop:=
 match l with
 |[]=>K []
 |.cells c::l=>dx c λc=>ck l λl=>K (.cells c::l)
 |.none::l=>ck l λl=>K (.none::l)
 |.loop::l=>ck l λl=>K (.loop::l)
 |.own e s::l=>ck l λl=>K (.own e s::l)
 |.map kt c::l=>ck l λl=>K (.map kt c::l)
 |.rows t e c z::l=>ck l λl=>K (.rows t e c z::l)
def FR:cp->Nat->TV->(cp->Prop)->Prop
 |[],_,_,K=>K []
 |_::l,0,v,K=>K (v::l)
 |a::l,n+1,v,K=>FR l n v λl=>K (a::l)
def gB(te:cp)(dst:Option Tmp)(v:TV)(K:cp->Prop):Prop:=
 match dst with
 |some d=>FR te d v K
 |none=>K te
mutual
def Zy:TV->TV->Option (List Prop)
 |.unk,.unk=>some []
 |.val (.int k a),.val (.int k' b)=>if k=k' then some [a=b]else none
 |.val (.bool a),.val (.bool b)=>some [a=b]
 |.val a,.val b=>some [a=b]
 |.ax,.ax=>some []
 |.agg l,.agg m=>R2 l m
 |.tup l,.tup m=>R2 l m
 |.sl t l .no,.sl t' l' .no=>if h:t=t' then some [h▸l=l']else none
 |.sl t l .full,.sl t' l' .full=>if h:t=t' then some [h▸l=l']else none
 |.sl t l (.iT g),.sl t' l' (.iT g')=>if h:t=t' then if g=g' then some [h▸l=l']else none else none
 |.sl t l (.stop b),.sl t' l' (.stop b')=>if h:t=t' then if b=b' then some [h▸l=l']else none else none
 |.ptr i o,.ptr i' o'=>if i=i'/\o=o' then some []else none
 |.mp i,.mp i'=>if i=i' then some []else none
 |.oz k fn te,.oz k' vV cr=>if k=k'/\fn=vV then R2 te cr else none
 |.so i t,.so i' t'=>if i=i'/\t=t' then some []else none
 |.fM t l i o,.fM t' l' i' o'=>if h:t=t' then some [h▸l=l',i=i',o=o']else none
 |.fn f a b,.fn f' a' b'=>if f=f' then match R2 a a',R2 b b' with
  |some x,some y=>some (x++y)
  |_,_=>none else none
 |_,_=>none
def R2:cp->cp->Option (List Prop)
 |[],[]=>some []
 |a::l,b::m=>match rL a with
  |true=>(Zy a b).map (·++[l=m])
  |false=>match Zy a b,R2 l m with
   |some x,some y=>some (x++y)
   |_,_=>none
 |_,_=>none
end
mutual
def leT:TV->TV->Option (List Prop)
 |_,.unk=>some []
 |.sl t l _,.sl t' l' .no=>if h:t=t' then some [h▸l=l']else none
 |.sl t l _,.sl t' l' (.stop _)=>if h:t=t' then some [h▸l=l']else none
 |.sl t l .full,.sl t' l' (.iT _)=>match l with
  |[]=>if t=t' then some [[]=l']else none
  |_::_=>none
 |.ax,.sl _ l _=>some [[]=l]
 |.agg l,.agg m=>Ip l m
 |v,u=>Zy v u
def Ip:cp->cp->Option (List Prop)
 |[],[]=>some []
 |a::l,b::m=>match rL b with
  |true=>(leT a b).map (·++[jY m l])
  |false=>match leT a b,Ip l m with
   |some x,some y=>some (x++y)
   |_,_=>none
 |_,_=>none
end
def rH:cx->cx->Option (List Prop)
 |_,[]=>some []
 |_::l,.none::m=>rH l m
 |.loop::l,.loop::m=>rH l m
 |.cells a::l,.cells b::m=>match Ip a b,rH l m with
  |some x,some y=>some (x++y)
  |_,_=>none
 |.own e s::l,.own e' s'::m=>if e=e'/\s=s' then rH l m else none
 |.map kt a::l,.map kt' b::m=>if h:kt=kt' then match rH l m with
  |some y=>some ((h▸a=b)::y)
  |none=>none else none
 |.rows t e a z::l,.rows t' e' b z'::m=>if h:t=t' then if e=e'/\z=z' then match rH l m with
  |some y=>some ((h▸a=b)::y)
  |none=>none else none else none
 |[],.own _ _::m=>rH [] m
 |_,_=>none
def ask(o:Option (List Prop))(K:Prop):Prop:=
 match o with
 |some l=>AY l K
 |none=>False
section
variable (P:Program) (ty:gb) (tt:TypeId->cJ) (T:eM)
def cR(n:Int):Prop:=-9223372036854775808<=n/\n<=9223372036854775807
def aha(a b:Int):Int:=
 match a with
 |.ofNat n=>IntKind.i64.wrap ((BitVec.ofInt 64 (.ofNat n)&&&BitVec.ofInt 64 b).toNat:Int)
 |.negSucc n=>IntKind.i64.wrap ((BitVec.ofInt 64 (.negSucc n)&&&BitVec.ofInt 64 b).toNat:Int)
def Ec(te:cp)(o:Oper):Option (TV×Prop):=
 match o.op with
 |.binOp .add _ x y _=>match fT te x,fT te y with
  |some (.val (.int .i64 a)),some (.val (.int .i64 b))=>some (.val (.int .i64 (a+b)),cR (a+b))
  |_,_=>none
 |.binOp .sub _ x y _=>match fT te x,fT te y with
  |some (.val (.int .i64 a)),some (.val (.int .i64 b))=>some (.val (.int .i64 (a-b)),cR (a-b))
  |_,_=>none
 |.binOp .mul _ x y _=>match fT te x,fT te y with
  |some (.val (.int .i64 a)),some (.val (.int .i64 b))=>some (.val (.int .i64 (a*b)),cR (a*b))
  |_,_=>none
 |.unOp .neg _ x=>match fT te x with
  |some (.val (.int .i64 a))=>some (.val (.int .i64 (-a)),cR (-a))
  |_=>none
 |.binOp .and _ x y _=>match fT te x,fT te y with
  |some (.val (.int .i64 a)),some (.val (.int .i64 b))=>some (.val (.int .i64 (aha a b)),True)
  |_,_=>none
 |_=>none
abbrev aey(xs ys:Array Value):List Field->Option Bool:=K5 P (eqV P 1) xs ys
def Vr(te:cp)(o:Oper):Option Bool:=
 match o.op with
 |.binOp .neq t x y _=>match(fT te x).bind iM,(fT te y).bind iM with
  |some (.agg xs),some (.agg ys)=>match P.underlying t,P.stoodInHeld t,P.eqGuardType P.depth t with
   |some (.struct fs),false,false=>(aey P xs ys fs.toList).map λr=>!r
   |_,_,_=>none
  |_,_=>none
 |.binOp .eql t x y _=>match(fT te x).bind iM,(fT te y).bind iM with
  |some (.agg xs),some (.agg ys)=>match P.underlying t,P.stoodInHeld t,P.eqGuardType P.depth t with
   |some (.struct fs),false,false=>aey P xs ys fs.toList
   |_,_,_=>none
  |_,_=>none
 |_=>none
def Bb(o:Oper):Bool:=
 match o.op with
 |.slice .. |.indexAddr .. =>true
 |.call {callee:=.builtin .append,.. }=>true
 |_=>false
def aeF(te:cp)(o:Oper):Option (Tmp×Int×Nat):=
 match o.op with
 |.indexAddr t _ (.tmp i)=>match ty t,te[i]? with
  |some ⟨.array k _ _,_,_⟩,some (.val (.int .i64 n))=>some (i,n,k)
  |_,_=>none
 |.index t _ (.tmp i)=>match ty t,te[i]? with
  |some ⟨.array k _ _,_,_⟩,some (.val (.int .i64 n))=>some (i,n,k)
  |_,_=>none
 |_=>none
def NZ(n:Int)(K:Nat->Prop):Nat->Nat->Prop
 |0,_=>False
 |c+1,j=>aB (decide (n=(j:Int))) (K j) (NZ n K c (j+1))
def ad1(te:cp)(o:Oper):Option (Bool×Prop):=
 match o.op with
 |.binOp .eql t x y _=>match ty t,fT te x,fT te y with
  |some ⟨.slice _ _ _ _,_,_⟩,some (.sl _ l _),some .ax=>some (false,l≠[])
  |some ⟨.slice _ _ _ _,_,_⟩,some .ax,some .ax=>some (true,True)
  |_,_,_=>none
 |_=>none
def ahT(o:Oper):Bool:=
 match o.op with
 |.binOp .neq .. |.binOp .eql .. =>true
 |_=>false
def PU(te:cp)(o:Oper):Option (FuncId×cp):=
 match o.op with
 |.call {callee:=.value f,args,argTypes}=>match fT te f,mj te args.toList with
  |some (.fn g fs cs),some xs=>if(fs++xs++cs).all eV then some (g,bR (gu tt fs argTypes) (fs++xs++cs))else none
  |_,_=>none
 |_=>none
def N8(te:cp)(tS:cx)(o:Oper):Option (FuncId×Nat×cp×cp):=
 match o.op with
 |.call {callee:=.value f,args,argTypes}=>match fT te f,mj te args.toList with
  |some (.fn g fs cs),some xs=>match VD (fs++xs++cs)with
   |some kp=>match y7 kp (gu tt fs argTypes) (fs++xs++cs),tS[kp]? with
    |some targs,some (.cells ts)=>if(fs++xs++cs).any isRef&&(fE ts).isEmpty then some (g,kp,targs,ts)else none
    |_,_=>none
   |none=>none
  |_,_=>none
 |_=>none
def N9(te:cp)(tS:cx)(o:Oper):Option (FuncId×Nat×cp×cp):=
 match o.op with
 |.call {callee:=.value f,args,argTypes}=>match fT te f,mj te args.toList with
  |some (.fn g fs cs),some xs=>match fs++xs++cs with
   |.ptr kp off::rest=>match tS[kp]? with
    |some (.cells ts)=>if rest.all eV&&ts.all kX then some (g,kp,.ptr 0 off::bR (gu tt fs argTypes).tail rest,ts)else none
    |_=>none
   |_=>none
  |_,_=>none
 |_=>none
def afP(md:Nat)(te:cp)(tS:cx)(o:Oper):Option (FuncId×Nat×cp×cp):=
 match md with
 |0=>N8 tt te tS o
 |2=>N9 tt te tS o
 |_=>none
def DW(md kp:Nat):dz:=
 match md with
 |2=>⟨some [kp],true⟩
 |_=>⟨none,true⟩
def K0(md:Nat)(v:TV)(cs:cp)(K:Prop):Prop:=
 match md with
 |2=>match B8 v&&cs.all kX with
  |true=>K
  |false=>False
 |_=>K
def agG(te:cp)(o:Oper):Option (FuncId×cp):=
 match o.op with
 |.call {callee:=.value f,args,argTypes:=_}=>match fT te f,mj te args.toList with
  |some (.fn g fs cs),some xs=>if(fs++xs++cs).any isRef||ty.h o==1 then some (g,fs++xs++cs)else none
  |_,_=>none
 |_=>none
def ad6(md:Nat)(te:cp)(o:Oper):Option (cp×Func×List (Nat×LA)):=
 match md with
 |0=>match agG ty te o with
  |some (g,A)=>match T.X g with
   |some (fn,j)=>some (A,fn,j)
   |none=>none
  |none=>none
 |_=>none
structure Inl where
 c:Func->List (Nat×LA)->cp->cx->(TV->cx->Prop)->Prop
 y:Nat->FuncId->cp->cp->cx->(cx->Prop)->Prop
 me:Option FuncId:=none
inductive Gd
 |no (b:Bool)
 |ask (d:Tmp) (b want:Bool)
 |unk
def gdT(ops:Array Oper)(te:cp)(o:Oper):Gd:=
 match o.guard with
 |none=>.no true
 |some (j,want)=>match(ops[j]?).bind (·.dst)with
  |some d=>match te[d]? with
   |some (.val (.bool b))=>.ask d b want
   |some .unk=>.unk
   |some (.val _)=>.no false
   |_=>.unk
  |none=>.no false
abbrev KO:=cp->cx->cY->Prop
def gH:dz:=⟨some [],false⟩
def oE(md n0 k:Nat)(tS:cx):Nat:=
 match md with
 |2=>n0+k
 |_=>tS.length
variable (inl:Inl)
def VJ(e nT:Nat)(v:TV)(K:TV->TB->Prop):Prop:=
 match v with
 |.sl t C3 .no=>K (.sl t C3 (.iT nT)) (.own e t.size)
 |_=>False
def Pz:cp->Option (List cp)
 |[]=>some []
 |.agg l::r=>(Pz r).map (l::·)
 |_=>none
theorem GM:∀t:List cp,Pz (t.map .agg)=some t
 |[]=>rfl
 |l::t=>by rw[aY,Pz,GM t];rfl
def aeE(L:cy)(cs:cp)(K:List cp->Prop):Prop:=
 match Pz cs with
 |some t=>match Im L t with
  |some tB=>K tB
  |none=>False
 |none=>False
def GG(md:Nat)(L:cy):dz:=
 match md with
 |2=>⟨some L,true⟩
 |_=>⟨none,true⟩
def IU(md:Nat)(o:Oper)(te:cp)(tS:cx)(fs:cY)(K:KO):Prop:=
 match Ob tt md te tS o with
 |some (g,L,targs,tP)=>match md==1,T.M g targs tP with
  |false,some (p,s)=>AY p (s.all λv cs facts=>impl facts (aeE L cs λtB=>gI v λv=>gB te o.dst v λte=>ck (yM L tB tS) λtS=>K te tS (fs++[GG md L])))
  |_,_=>False
 |none=>False
def IL(md:Nat)(o:Oper)(te:cp)(tS:cx)(fs:cY)(K:KO):Prop:=
 match afP tt md te tS o with
 |some (g,kp,targs,ts)=>match T.C g targs ts with
  |some (p,s)=>AY p (s.all λv cs facts=>impl facts (K0 md v cs (gI v λv=>gB te o.dst v λte=>dx cs λcs=>ck (tS.set kp (.cells cs)) λtS=>K te tS (fs++[DW md kp]))))
  |none=>IU tt T md o te tS fs K
 |none=>IU tt T md o te tS fs K
def adN(md:Nat)(te:cp)(tS:cx)(o:Oper):Option (Nat×FuncId×cp×cp):=
 match md==1,o.op with
 |false,.call {callee:=.value f,args,argTypes:=_}=>match fT te f with
  |some (.oz k fn AB)=>match mj te args.toList,tS[k]? with
   |some xs,some .loop=>some (k,fn,AB,xs)
   |_,_=>none
  |_=>none
 |_,_=>none
def adO(o:Oper)(te:cp)(tS:cx)(fs:cY)(K:KO)(k:Nat)(jW:cx):Prop:=
 aB (okB (te.map (uZ tS k)) (pR k 0 tS (jW.set k .loop))&&(dR 0 tS).all (mE (pR k 0 tS (jW.set k .loop)))) (dx (te.map (uZ tS k)) λte=>gB te o.dst (.val (.bool true)) λte=>ck (pR k 0 tS (jW.set k .loop)) λtS=>K te tS (fs++[⟨none,true⟩])) False
def V9(md nT:Nat)(o:Oper)(te:cp)(tS:cx)(fs:cY)(K:KO):Prop:=
 match adN md te tS o with
 |some (k,fn,AB,xs)=>inl.y k fn AB xs tS (adO o te tS fs K k)
 |none=>match ad6 ty T md te o with
 |some (A,fn,j)=>inl.c fn j A tS λv bU=>gI v λv=>dx (gn tS te) λte=>gB te o.dst v λte=>K te bU fs
 |none=>match ty.h o==1 with
 |true=>match md,PU tt te o with
  |0,none=>IL tt T 0 o te tS fs K
  |2,some (g,targs)=>match T.O g targs with
   |some (p,e,s)=>AY p (s.all λv _ facts=>impl facts (VJ e nT v λv b=>gI v λv=>gB te o.dst v λte=>ck (oC tS nT b) λtS=>K te tS (fs++[⟨some [nT],true⟩])))
   |none=>False
  |_,_=>False
 |false=>match PU tt te o with
 |some (g,targs)=>match md==0,T.N g targs with
  |true,some (p,s)=>AY p (s.all λ_ cs facts=>impl facts (gB te o.dst (.ptr tS.length 0) λte=>K te (tS++[.cells cs]) fs))
  |_,_=>match T.I g targs with
   |some (p,s)=>AY p (s.all λv _ facts=>impl facts (gI v λv=>gB te o.dst v λte=>K te tS (fs++[gH])))
   |none=>False
 |none=>IL tt T md o te tS fs K
def mapM(md:Nat)(te:cp)(tS:cx)(o:Oper):Option (TV×cx×Prop):=
 match md with
 |0=>ad3 P tt te tS o tS.length
 |_=>none
def ac5(md:Nat)(te:cp)(tS:cx)(o:Oper)(nT:Nat):Option (TV×cp×cx×dz×Prop):=
 match KQ ty tt te tS o with
 |some (v,g,c)=>some (v,te,tS,⟨some [g],false⟩,c)
 |none=>if md=1 then none else match VH ty tt te tS o with
  |some (g,bU)=>some (.unk,te,bU,⟨some [g],true⟩,True)
  |none=>if md=0 then(VG ty tt te tS o nT).map λr=>(r.1,r.2.1,r.2.2.1,⟨none,true⟩,r.2.2.2)else none
def aaj(md n0 k:Nat)(o:Oper)(te:cp)(tS:cx)(fs:cY)(K:KO):Prop:=
 match AR tS (oE md n0 k tS)with
 |false=>False
 |true=>match af1 o with
  |true=>V9 ty tt T inl md (oE md n0 k tS) o te tS fs K
  |false=>match ac5 ty tt md te tS o (oE md n0 k tS)with
   |some (v,cr,bU,f,c)=>c/\gI v λv=>dx cr λte=>gB te o.dst v λte=>ck bU λtS=>K te tS (fs++[f])
   |none=>match mapM P tt md te tS o with
   |some (v,bU,c)=>c/\gI v λv=>gB te o.dst v λte=>ck bU λtS=>K te tS (fs++[⟨none,true⟩])
   |none=>match Ec te o with
   |some (v,c)=>c/\gB te o.dst v λte=>K te tS (fs++[gH])
   |none=>match ahT o,Vr P te o,ad1 ty te o with
    |true,some b,_=>gB te o.dst (.val (.bool b)) λte=>K te tS (fs++[gH])
    |true,none,some (b,c)=>c/\gB te o.dst (.val (.bool b)) λte=>K te tS (fs++[gH])
    |_,_,_=>match md with
     |1=>match bX P ty tt te tS o with
      |some q=>match Bb o with
       |true=>q.2/\gI q.1 λv=>gB te o.dst v λte=>K te tS (fs++[gH])
       |false=>gI q.1 λv=>gB te o.dst v λte=>K te tS (fs++[gH])
      |none=>False
     |_=>match stepT P ty tt te tS o (oE md n0 k tS)with
      |some q=>match Bb o with
       |true=>q.c/\gI q.v λv=>dx q.te λte=>gB te o.dst v λte=>ck q.tS λtS=>K te tS (fs++[⟨some q.FY,nZ o⟩])
       |false=>gI q.v λv=>gB q.te o.dst v λte=>ck q.tS λtS=>K te tS (fs++[⟨some q.FY,nZ o⟩])
      |none=>False
def aae(md nT:Nat)(o:Oper)(te:cp)(tS:cx)(fs:cY)(K:KO):aeH->Prop
 |.ix v c=>c/\gB te o.dst v λte=>K te tS (fs++[gH])
 |.ld0 id off t x=>aB (off==0) (gB te o.dst (.sl t x .no) λte=>K te tS (fs++[⟨some [id],false⟩])) False
 |.ld id off u c l b=>match b with
  |true=>∃(x:List u.den)(g:Nat),(c::l)[off]? =some (.sl u x (.iT g))/\gB te o.dst (.sl u x (.CG g)) λte=>K te tS (fs++[⟨some [id],false⟩])
  |false=>∃x:List u.den,(c::l)[off]? =some (.sl u x .no)/\gB te o.dst (.sl u x .no) λte=>K te tS (fs++[⟨some [id],false⟩])
 |.st id off c l u y g=>match md==1 with
  |true=>False
  |false=>∃j,off=j+1/\j<l.length/\gB te o.dst .unk λte=>ck (tS.set id (.cells (c::aai l j (.sl u y (.iT g))))) λtS=>K te tS (fs++[⟨some [id],true⟩])
 |.ap e s g k l c=>match md==1,qM e s 0 tS with
  |false,(lo,n)=>(lo<=g/\g<lo+n)/\c/\dx (gn tS te) λte=>gB te o.dst (.sl k l (.CG g)) λte=>ck (IB tS g tS) λtS=>K te tS (fs++[⟨some (nT::List.range' lo n),true⟩])
  |_,_=>False
def Sa(md n0 k:Nat)(o:Oper)(te:cp)(tS:cx)(fs:cY)(K:KO):Prop:=
 match CM ty tt te tS o with
 |some q=>match AR tS (oE md n0 k tS)with
  |true=>aae md (oE md n0 k tS) o te tS fs K q
  |false=>False
 |none=>match aeF ty te o with
 |some (t,n,c)=>NZ n (λj=>FR te t (.val (.int .i64 (j:Int))) λte=>aaj P ty tt T inl md n0 k o te tS fs K) c 0
 |none=>aaj P ty tt T inl md n0 k o te tS fs K
def opK(md n0 k:Nat)(o:Oper)(te:cp)(tS:cx)(fs:cY)(K:KO):Prop:=
 match md,ty.h o with
 |0,2=>match Nz ty te tS o with
  |some (te,tS)=>dx te λte=>ck tS λtS=>Sa P ty tt T inl md n0 k o te tS fs K
  |none=>False
 |_,_=>Sa P ty tt T inl md n0 k o te tS fs K
def PB(o:Oper)(te:cp)(tS:cx)(fs:cY)(K:KO):Prop:=gB te o.dst R4 λte=>K te tS (fs++[gH])
def qK(md n0:Nat)(ops:Array Oper):List Oper->Nat->cp->cx->cY->KO->Prop
 |[],_,te,tS,fs,K=>K te tS fs
 |o::r,k,te,tS,fs,K=>match gdT ops te o with
  |.no true=>opK P ty tt T inl md n0 k o te tS fs λte tS fs=>qK md n0 ops r (k+1) te tS fs K
  |.no false=>PB o te tS fs λte tS fs=>qK md n0 ops r (k+1) te tS fs K
  |.ask d b want=>match want with
   |true=>aB b (FR te d (.val (.bool true)) λte=>opK P ty tt T inl md n0 k o te tS fs λte tS fs=>qK md n0 ops r (k+1) te tS fs K) (FR te d (.val (.bool false)) λte=>PB o te tS fs λte tS fs=>qK md n0 ops r (k+1) te tS fs K)
   |false=>aB b (FR te d (.val (.bool true)) λte=>PB o te tS fs λte tS fs=>qK md n0 ops r (k+1) te tS fs K) (FR te d (.val (.bool false)) λte=>opK P ty tt T inl md n0 k o te tS fs λte tS fs=>qK md n0 ops r (k+1) te tS fs K)
  |.unk=>False
def aj0(d:Option Tmp):Nat:=
 match d with
 |some d=>2^d
 |none=>0
def afS(o:Oper):Nat:=o.op.operands.foldl (λa x=>match x with|.tmp t=>a|||2^t|_=>a) 0
def defs:Code->Nat
 |.region _ ops _=>ops.foldl (λa o=>a|||aj0 o.dst) 0
 |.seq a b|.cond _ a b=>defs a|||defs b
 |.block _ c|.loop c|.scope c=>defs c
 |_=>0
def oc:Code->Nat
 |.region _ ops _=>ops.foldl (λa o=>a|||afS o) 0
 |.seq a b=>oc a|||oc b
 |.cond x a b=>(match x with|.tmp t=>2^t|_=>0)|||oc a|||oc b
 |.block _ c|.loop c|.scope c=>oc c
 |.rangeFunc x _ a b=>(match x with|.tmp t=>2^t|_=>0)|||oc a|||oc b
 |_=>0
def cnt:Code->Nat
 |.seq a b=>1+cnt a+cnt b
 |.cond _ a b=>cnt a+cnt b
 |.block _ c|.scope c=>cnt c
 |.loop c=>1+cnt c
 |_=>0
def oP(sl:List (Nat×TV))(keep:Nat):Nat->cp->cp
 |_,[]=>[]
 |i,v::l=>(match sl.find? λp=>p.1==i with
  |some p=>p.2
  |none=>match keep.testBit i with
   |true=>v
   |false=>.unk)::oP sl keep (i+1) l
def xx(sl:List (Nat×TV)):Nat->cp->Option (List Prop)
 |_,[]=>some []
 |i,v::l=>match sl.find? λp=>p.1==i with
  |some p=>match leT v p.2,xx sl (i+1) l with
   |some x,some y=>some (x++y)
   |_,_=>none
  |none=>xx sl (i+1) l
abbrev MpL:=List (Nat×(Σkt:TT,List kt.den))
def uW(pl:List (Nat×cp))(mp:MpL):Nat->cx->cx
 |_,[]=>[]
 |i,.cells c::l=>(match pl.find? λp=>p.1==i with
  |some p=>.cells p.2
  |none=>.cells c)::uW pl mp (i+1) l
 |i,.map kt c::l=>(match mp.find? λp=>p.1==i with
  |some (_,⟨kt',c'⟩)=>.map kt' c'
  |none=>.map kt c)::uW pl mp (i+1) l
 |i,.rows t e c z::l=>(match mp.find? λp=>p.1==i with
  |some (_,⟨t',c'⟩)=>.rows t' e c' z
  |none=>.rows t e c z)::uW pl mp (i+1) l
 |i,.own e s::l=>.own e s::uW pl mp (i+1) l
 |i,.none::l=>.none::uW pl mp (i+1) l
 |i,.loop::l=>.loop::uW pl mp (i+1) l
def jI(pl:List (Nat×cp))(mp:MpL):Nat->cx->Option (List Prop)
 |_,[]=>some []
 |i,.cells c::l=>match pl.find? λp=>p.1==i with
  |some p=>match Ip c p.2,jI pl mp (i+1) l with
   |some x,some y=>some (x++y)
   |_,_=>none
  |none=>jI pl mp (i+1) l
 |i,.map kt c::l=>match mp.find? λp=>p.1==i with
  |some (_,⟨kt',c'⟩)=>if h:kt=kt' then match jI pl mp (i+1) l with
   |some y=>some ((h▸c=c')::y)
   |none=>none else none
  |none=>jI pl mp (i+1) l
 |i,.rows t _ c _::l=>match mp.find? λp=>p.1==i with
  |some (_,⟨t',c'⟩)=>if h:t=t' then match jI pl mp (i+1) l with
   |some y=>some ((h▸c=c')::y)
   |none=>none else none
  |none=>jI pl mp (i+1) l
 |i,.own _ _::l=>jI pl mp (i+1) l
 |i,.none::l=>jI pl mp (i+1) l
 |i,.loop::l=>jI pl mp (i+1) l
def yY(b:Bd)(tS:cx):cx:=uW b.pl b.mp 0 tS++b.own.map λp=>.own p.1 p.2
abbrev KC:=DX->cp->cx->Prop
def adA(J:List (Nat×LA))(i:Nat)(te:cp)(tS:cx):Option LA:=
 match J.find? λp=>p.1==i with
 |some p=>some (p.2.at te tS)
 |none=>none
def Xd(B:cy)(b:Bd)(keep:Nat)(te:cp)(tS:cx)(K:Prop):Prop:=
 aB (okB (oP b.sl keep 0 te) (yY b tS)&&B.all (mE (yY b tS))) (ask (xx b.sl 0 te) (ask (jI b.pl b.mp 0 tS) (AY b.cQ K))) False
def Wb(B:cy)(mV:cp)(iS:cx)(b:Bd)(te:cp)(tS:cx)(K:Prop):Prop:=
 aB (okB mV iS&&B.all (mE iS)) (ask (Ip te mV) (ask (rH tS iS) (AY b.cQ K))) False
def unK(f:cp->cx->(cp->cx->Prop)->Prop)(K:cp->cx->Prop):Nat->cp->cx->Prop
 |0,te,tS=>K te tS
 |n+1,te,tS=>f te tS (unK f K n)
def N7(P:Program):Code->Option (Array Oper)
 |.region _ ops true=>if xu P ops then none else some ops
 |_=>none
def WW(keep:Nat)(ops:Array Oper):Bool:=ops.toList.all λo=>match o.dst with
 |some d=>!keep.testBit d
 |none=>true
def VA(x:Operand)(te:cp)(v:Bool)(K:cp->Prop):Prop:=
 match x with
 |.tmp t=>FR te t (.val (.bool v)) K
 |_=>K te
def WU(tS:cx)(k:Nat):Bool:=
 match tS[k]? with
 |some .loop=>true
 |_=>false
variable (B:cy) (J:List (Nat×LA))
def yF:Code->Nat->Nat->cp->cx->KC->Prop
 |.skip,_,_,te,tS,K|.label _,_,_,te,tS,K=>K .normal te tS
 |.exit id,_,_,te,tS,K=>K (.exit id) te tS
 |.ret,_,_,te,tS,K=>K .ret te tS
 |.scope c,i,lv,te,tS,K=>yF c i lv te tS K
 |.block id c,i,lv,te,tS,K=>yF c i lv te tS λe te tS=>match e with
  |.exit jf=>if jf=id then K .normal te tS else K (.exit jf) te tS
  |.normal=>K .normal te tS
  |.ret=>K .ret te tS
 |.cond x a b,i,lv,te,tS,K=>match fT te x with
  |some (.val (.bool t))=>aB t (VA x te true λte=>yF a i lv te tS K) (VA x te false λte=>yF b (i+cnt a) lv te tS K)
  |_=>False
 |.seq a b,i,lv,te,tS,K=>match adA J i te tS with
  |some la=>match N7 P a with
   |some ops=>aB (mJ ops (Region.before ops)&&WW ((lv|||oc b)&&&(2^400-1-(defs a))) ops) (qK P ty tt T inl 1 0 ops ops.toList 0 te tS [] λcr _ _=>la.some λbd=>ask (xx bd.sl 0 cr) (AY bd.cQ True)) False/\
    la.all λbd=>impl bd.cQ (dx (oP bd.sl ((lv|||oc b)&&&(2^400-1-(defs a))) 0 te) λmV=>yF b (i+1+cnt a) lv mV tS K)
   |none=>yF a (i+1) (lv|||oc b) te tS (λe cr bU=>match e with
    |.normal=>la.some λbd=>Wb B (oP bd.sl ((lv|||oc b)&&&(2^400-1-(defs a))) 0 te) (yY bd tS) bd cr bU True
    |.exit id=>K (.exit id) cr bU
    |.ret=>K .ret cr bU)/\la.all λbd=>impl bd.cQ (dx (oP bd.sl ((lv|||oc b)&&&(2^400-1-(defs a))) 0 te) λmV=>ck (yY bd tS) λiS=>yF b (i+1+cnt a) lv mV iS K)
  |none=>yF a (i+1) (lv|||oc b) te tS λe te tS=>match e with
   |.normal=>yF b (i+1+cnt a) lv te tS K
   |.exit id=>K (.exit id) te tS
   |.ret=>K .ret te tS
 |.loop c,i,lv,te,tS,K=>match adA J i te tS with
  |some la=>unK (λte tS K'=>yF c (i+1) (lv|||oc c) te tS λe te tS=>match e with
    |.normal=>K' te tS
    |.exit id=>K (.exit id) te tS
    |.ret=>K .ret te tS) (λte tS=>match la.inner.at te tS with
     |.un n=>unK (λte tS K'=>yF c (i+1) (lv|||oc c) te tS λe te tS=>match e with
      |.normal=>K' te tS
      |.exit id=>K (.exit id) te tS
      |.ret=>K .ret te tS) (λ_ _=>False) (min n 1000) te tS
     |la=>(la.some λbd=>Xd B bd ((lv|||oc c)&&&(2^400-1-(defs c))) te tS (bd.m<1000000))/\
   la.all λbd=>impl bd.cQ (dx (oP bd.sl ((lv|||oc c)&&&(2^400-1-(defs c))) 0 te) λmV=>ck (yY bd tS) λiS=>yF c (i+1) (lv|||oc c) mV iS λe cr bU=>match e with
    |.normal=>la.some λbd'=>Wb B (oP bd'.sl ((lv|||oc c)&&&(2^400-1-(defs c))) 0 te) (yY bd' tS) bd' cr bU (bd'.m<bd.m)
    |.exit id=>K (.exit id) cr bU
    |.ret=>K .ret cr bU)) (min la.ac4 1000) te tS
  |none=>False
 |.region _ ops draw,_,_,te,tS,K=>match draw with
  |true=>match xu P ops with
   |true=>aB (mJ ops (Region.before ops)) (ck (tS++List.replicate ops.size .none) λnG=>qK P ty tt T inl 2 tS.length ops ops.toList 0 te nG [] λte tS fs=>aB (uU (Region.before ops) fs) (ck (pW tS) λtS=>K .normal te tS) False) False
   |false=>aB (mJ ops (Region.before ops)) (qK P ty tt T inl 1 0 ops ops.toList 0 te tS [] λte _ _=>K .normal te tS) False
  |false=>qK P ty tt T inl 0 0 ops ops.toList 0 te tS [] λte tS _=>ck (pW tS) λtS=>K .normal te tS
 |.rangeFunc f _ _ _,_,_,te,tS,K=>match inl.me,fT te f with
  |some me,some (.fn g fs cs)=>match T.X g with
   |some (fn,j)=>inl.c fn j (fs++[.oz tS.length me (gn tS te)]++cs) (tS++[.loop]) λ_ bU=>aB (WU bU tS.length&&!(fE (gn tS te)++oM bU).contains tS.length) (dx (gn tS te) λte=>ck (bU.set tS.length .none) λtS=>K .normal te tS) False
   |none=>False
  |_,_=>False
 |_,_,_,_,_,_=>False
def aew(ty:gb)(rs:List ResultVar)(js:List cJ)(s:uk)(te:cp)(tS:cx):Prop:=
 match xR ty te tS rs with
 |some vs=>dx (yS tS vs) λvs=>aB (vs.all eV&&(refs (kJ (bR js vs))).isEmpty) (s.some λv _ facts=>ask (Zy (kJ (bR js vs)) v) (dA facts)) False
 |none=>False
def aex(ty:gb)(rs:List ResultVar)(js oy:List cJ)(s:uk)(te:cp)(tS:cx):Prop:=
 match xR ty te tS rs,tS with
 |some vs,.cells ts::_=>aB (vs.all eV&&(refs (kJ (bR js vs))).isEmpty&&(ts.all eV&&(fE (bR oy ts)).isEmpty)) (s.some λv cs facts=>ask (Zy (kJ (bR js vs)) v) (ask (R2 (bR oy ts) cs) (dA facts))) False
 |_,_=>False
def aev(ty:gb)(rs:List ResultVar)(js:List cJ)(n:Nat)(s:uk)(te:cp)(tS:cx):Prop:=
 match xR ty te tS rs,KU n tS (List.range n)with
 |some vs,some t=>aB (vs.all eV&&B8 (kJ (bR js vs))) (s.some λv cs facts=>ask (Zy (kJ (bR js vs)) v) (ask (R2 (t.map .agg) cs) (dA facts))) False
 |_,_=>False
def VL(oy:List cJ)(ts:cp):cp:=
 match oy,ts with
 |[],a::l=>match rL a with
  |true=>kF none a::bR [] l
  |false=>bR [] (a::l)
 |oy,ts=>bR oy ts
def aeu(ty:gb)(rs:List ResultVar)(oy:List cJ)(s:uk)(te:cp)(tS:cx):Prop:=
 match xR ty te tS rs,tS with
 |some [.ptr 0 0],.cells ts::_=>aB (ts.all eV&&(fE (bR oy ts)).isEmpty) (s.some λ_ cs facts=>ask (R2 (VL oy ts) cs) (dA facts)) False
 |_,_=>False
def aet(ty:gb)(rs:List ResultVar)(e:TypeId)(s:uk)(te:cp)(tS:cx):Prop:=
 match xR ty te tS rs with
 |some [.sl t C3 (.iT g)]=>match tS[g]? with
  |some (.own e' n)=>aB (e'==e&&n==t.size) (s.some λv _ facts=>ask (Zy (.sl t C3 .no) v) (dA facts)) False
  |_=>False
 |_=>False
def NM(F:cp->cx->Prop)(e:DX)(te:cp)(tS:cx):Prop:=
 match e with
 |.exit _=>False
 |.normal=>F te tS
 |.ret=>F te tS
end
def wj(rs:List ResultVar):Nat:=rs.foldl (λa x=>match x with|.tmp t=>a|||2^t|.cell t _=>a|||2^t) 0
def NA(n:Nat)(l:cp):cp:=l++List.replicate (n-l.length) .unk
def mI(f:Func):Code:=f.body.getD .skip
def aes(ty:gb)(rs:List ResultVar)(K:TV->cx->Prop)(te:cp)(tS:cx):Prop:=
 match xR ty te tS rs with
 |some vs=>K (kJ vs) tS
 |none=>False
def R9(n:Nat)(tS:cx):cx:=tS++List.replicate (n-tS.length) .none
def aeA(k:Nat)(tS:cx)(K:cx->Prop):Prop:=
 match tS[k]? with
 |some .none=>K tS
 |_=>False
def adP(P:Program)(ty:gb)(tt:TypeId->cJ)(T:eM)(inl:Inl)(k:Nat)(fn:FuncId)(AB xs:cp)(tS:cx)(K:cx->Prop):Prop:=
 match T.me,T.yp with
 |some me,(ps,oS,body)=>aB (me==fn&&xs.length==ps.length&&!(fE (oL AB (ps.zip xs))++oM tS).contains k) (dx (oL AB (ps.zip xs)) λte=>ck (tS.set k .none) λnG=>yF P ty tt T inl (oG k tS) T.Y oS 0 (oc body) te nG λe te iS=>match e with
  |.normal=>yF P ty tt T inl (oG k tS) T.Y body (cnt oS) 0 te iS λe _ jW=>match e with
   |.normal=>aeA k (R9 tS.length jW) K
   |_=>False
  |_=>False) False
 |none,_=>False
def Sc(P:Program)(ty:gb)(tt:TypeId->cJ)(T:eM):Nat->Inl
 |0=>⟨λ_ _ _ _ _=>False,λ_ _ _ _ _ _=>False,none⟩
 |d+1=>⟨λfn j A tS K=>dx (NA fn.ntmps A) λte=>yF P ty tt T (Sc P ty tt T d) (dR 0 tS) j (mI fn) 0 (wj fn.results.toList) te tS (NM (aes ty fn.results.toList K)),adP P ty tt T (Sc P ty tt T d),none⟩
def Sb(P:Program)(ty:gb)(tt:TypeId->cJ)(T:eM)(d:Nat):Inl:=⟨(Sc P ty tt T d).c,(Sc P ty tt T d).y,T.me⟩
end Go.Tv
