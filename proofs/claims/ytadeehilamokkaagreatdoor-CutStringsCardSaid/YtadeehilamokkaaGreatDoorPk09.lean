import Derived.Test.YtadeehilamokkaaGreatDoorPk08
namespace Go.Tv
open Go Go.Di Go.Proofs
def DJ(tS:cx)(k:Nat):Option (TV×cp):=
 match tS[k]? with
 |some (.cells (a::l))=>match qO a with
  |true=>some (a,l)
  |false=>none
 |_=>none
def Na(e s:Nat):cx->Nat
 |.own e' s'::l=>match e'==e&&s'==s with
  |true=>Na e s l+1
  |false=>0
 |_=>0
def qf(e s:Nat):Nat->cx->Nat×Nat
 |i,[]=>(i,0)
 |i,b::l=>match Na e s (b::l)with
  |0=>qf e s (i+1) l
  |n+1=>(i,n+1)
def Ir(tS:cx)(g:Nat):cx->cx
 |[]=>[]
 |.cells l::m=>.cells (match l with
  |[]=>[]
  |a::l=>match qO a with
   |true=>a::o6 g l
   |false=>fI tS (a::l))::Ir tS g m
 |b::m=>b::Ir tS g m
def aiU(l:cp)(j:Nat)(v:TV):cp:=l.set j v
inductive aeo where
 |ix (v:TV) (c:Prop)
 |ld0 (id off:Nat) (t:TT) (x:List t.den)
 |ld (id off:Nat) (u:TT) (c:TV) (l:cp) (b:Bool)
 |st (id off:Nat) (c:TV) (l:cp) (u:TT) (y:List u.den) (g:Nat)
 |ap (e s g:Nat) (k:TT) (l:List k.den) (c:Prop)
def aeT:TV->Bool
 |.sl _ _ (.stop b)=>b
 |_=>false
def af1(u:TT):TV->Option (List u.den)
 |.sl t l _=>if h:t=u then some (h▸l)else none
 |_=>none
section
variable (P:Program) (ty:fo) (tt:TypeId->cJ)
def Cr(te:cp)(tS:cx)(o:Oper):Option aeo:=
 match o.op with
 |.indexAddr t x i=>match eL te x with
  |some (.ptr id off)=>match DJ tS id with
   |some _=>match ty t,Ih te i with
    |some ⟨.array k s _,_,_⟩,some n=>some (.ix (.ptr id (n.toNat*s+off)) (0<=n/\n<(k:Int)))
    |_,_=>none
   |none=>none
  |_=>none
 |.load t a=>match eL te a with
  |some (.ptr id off)=>match DJ tS id with
   |some (c,l)=>match ty t,tt t with
    |some d,some (.sl u)=>match d.k.isAgg with
     |true=>none
     |false=>match af1 u c with
      |some x=>some (.ld0 id off u x)
      |none=>some (.ld id off u c l (aeT c))
    |_,_=>none
   |none=>none
  |_=>none
 |.store t a x=>match eL te a with
  |some (.ptr id off)=>match DJ tS id with
   |some (c,l)=>match ty t,eL te x with
    |some d,some (.sl u y (.Ci g))=>match d.size==1 with
     |true=>some (.st id off c l u y g)
     |false=>none
    |_,_=>none
   |none=>none
  |_=>none
 |.call {callee:=.builtin .append,args,argTypes}=>match args.toList,argTypes.toList with
  |[x,y],[t,u]=>match eL te x with
   |some (.sl k l (.Ci g))=>if t=u/\ty.h o≠1 then match ty t,(eL te y).map (fA tt t)with
    |some ⟨.slice e s iU _,_,_⟩,some (.sl k' m _)=>match ty e with
     |some ⟨_,_,some _⟩=>if h:k'=k then
      if decide (0<s)&&decide (iU<=100000)&&k.size==s then some (.ap e s g k (l++(h▸m)) (l.length+m.length<=1000000000))else none
      else none
     |_=>none
    |_,_=>none
    else none
   |_=>none
  |_,_=>none
 |_=>none
end
variable {P:Program} {ty:fo} {tt:TypeId->cJ} {ι ι' w:kW} {S S':aj} {te bS:cp} {env:cn} {tS bK:cx} {aD:bT} {call:bg} {yf:dx} {o:Oper} {aB nT:Nat} {B:cy} {ops:Array Oper}
def UA(u v:TV):Prop:=∀ι S d,RT ι S v d->RT ι S u d
def Dm(l m:cp):Prop:=∀ι S ds,cq ι S m ds->cq ι S l ds
def U5(bK tS:cx):Prop:=∀k:Nat,bK[k]? =tS[k]? \/∃a b,bK[k]? =some (.cells a)/\tS[k]? =some (.cells b)/\Dm a b
theorem Dm.refl (l:cp):Dm l l:=λ_ _ _ h=>h
theorem UA.refl (v:TV):UA v v:=λ_ _ _ h=>h
theorem U5.refl (tS:cx):U5 tS tS:=λ_=>.inl rfl
theorem u7{u v:TV}{l m:cp}(h:UA u v)(k:Dm l m):Dm (u::l) (v::m):=λι S ds hd=>by obtain⟨d,m',rfl,h1,h2⟩:=ax hd;exact aP (h _ _ _ h1) (k _ _ _ h2)
theorem Ny{u v:TV}(h:UA u v):∀(i:Nat)(l:cp),Dm (l.set i u) (l.set i v)
 |_,[]=>Dm.refl _
 |0,_::l=>u7 h (Dm.refl l)
 |i+1,a::l=>u7 (UA.refl a) (Ny h i l)
theorem aeE{u v:TV}(h:UA u v)(dst:Option Tmp)(l:cp):Dm (jV l dst u) (jV l dst v):=by
 cases dst with
 |none=>exact Dm.refl _
 |some d=>exact Ny h d l
theorem NL(h:bO ι te tS env S)(h1:Dm bS te)(h2:U5 bK tS):bO ι bS bK env S:=by
 refine⟨h1 _ _ _ h.env,λk l hk=>?_,λk e s hk=>?_,λk k' hk=>?_,h.inj,λk b hk t ht=>?_⟩;rcases h2 k with e|⟨a,b,e1,e2,e3⟩;exact h.cells k l (e▸hk);rw[e1]at hk;cases hk;obtain⟨k',ds,n1,n2,n3⟩:=h.cells k b e2;exact⟨k',ds,n1,n2,e3 _ _ _ n3⟩;rcases h2 k with e'|⟨a,b,e1,e2,e3⟩;exact h.own k e s (e'▸hk)
 grind
 obtain⟨b,n1,n2⟩:=h.qH k k' hk;rcases h2 k with e|⟨a,b',e1,e2,e3⟩
 grind
 grind
 rcases h2 k with e|⟨a,b',e1,e2,e3⟩;exact h.mp k b (e▸hk) t ht;rw[e1]at hk;cases hk;trivial
theorem afJ(h:oy B tS)(h2:U5 bK tS):oy B bK:=λk hk=>by
 obtain⟨l,h1⟩:=h k hk;rcases h2 k with e|⟨a,b',e1,e2,e3⟩
 grind
 exact⟨some a,e1⟩
theorem agF{k:Nat}{Q:cp->Prop}(h:Dm bS te)(hq:WQ P ty aD call yf ops tS k bS Q):WQ P ty aD call yf ops tS k te Q:=
 λι env S hR=>hq ι env S (NL hR h (U5.refl _))
theorem Da{dr:Bool}{Q Q':TV->cp->cx->cQ->Prop}(h:Does P ty aD call yf B o nT te tS dr Q)(hq:∀v bS bK ft,Q v bS bK ft->∃v2 UF jA ft2,UA v2 v/\Dm UF bS/\U5 jA bK/\(ft.wr=true->ft2.wr=true)/\(∀l,ft2.ids=some l->∃l',ft.ids=some l'/\∀j∈l',j∈l)/\Q' v2 UF jA ft2):Does P ty aD call yf B o nT te tS dr Q':=by
 intro ι w env S aB hR hB hw hT hn hS;obtain⟨d,S',ι',w',v,bS,bK,f,ft,h1,h2,h3,h4,h5,h6,h7,h8,h9,wz,Ge,U0⟩:=h ι w env S aB hR hB hw hT hn hS;obtain⟨v2,UF,jA,ft2,q1,q2,q3,q4,q5,q6⟩:=hq _ _ _ _ U0;refine⟨d,S',ι',w',v2,UF,jA,f,ft2,h1,h2,⟨λe=>q4 (h3.1 e),λl hl=>?_⟩,λl m hl hm=>?_,NL h5 q2 q3,q1 _ _ _ h6,h7,h8,h9,afJ wz q3,Ge,q6⟩;obtain⟨l',e1,e2⟩:=q5 l hl;obtain⟨m,e3,e4⟩:=h3.2 l' e1;exact⟨m,e3,λj hj=>(e4 j hj).imp λi hi=>⟨e2 _ hi.1,hi.2⟩⟩
 grind
theorem Y1{dr:Bool}{Q:TV->cp->cx->cQ->Prop}(h1:Dm bS te)(h:Does P ty aD call yf B o nT bS tS dr Q):Does P ty aD call yf B o nT te tS dr Q:=
 λι w env S aB hR=>h ι w env S aB (NL hR h1 (U5.refl _))
theorem AP{k:Nat}{a:TV}{l:cp}(h:DJ tS k=some (a,l)):tS[k]? =some (.cells (a::l))/\qO a=true:=by
 unfold DJ at h;split at h
 grind
 cases h
def o7:TV->TV
 |.sl t l (.Ci g)=>.sl t l (.oS g)
 |v=>v
theorem Xq(v:TV)(d:DV):RT ι S (o7 v) d↔RT ι S v d:=by
 unfold o7;split;cases d<;>simp only[RT,qb]
 grind
theorem KN:∀l:cp,Dm (l.map o7) l
 |[]=>Dm.refl _
 |a::l=>u7 (λ_ _ _ h=>(Xq a _).2 h) (KN l)
theorem HA{x:Operand}{v:TV}(h:eL te x=some v):eL (te.map o7) x=some (o7 v):=by
 cases x with
 |tmp t=>simp only[eL,aF]at h⊢;subst h;rw[aK,aK,cH];cases te[t]?<;>rfl
 |const v0=>
  simp only[eL,af]at h⊢;obtain⟨d,h1,rfl⟩:=h;refine⟨d,h1,?_⟩;have h1:∀d,o7 (s6 d)=s6 d:=λd=>by unfold s6;split<;>rfl
  unfold aai;split;rfl;rfl
  grind
 |func f=>simp only[eL,aF]at h⊢;subst h;rfl
 |global _=>simp[eL]at h
theorem Jx{t:TypeId}{v v':TV}(h:fA tt t v=v'):fA tt t (o7 v)=o7 v':=by
 subst h;cases v with
 |jD=>simp only[o7,fA];split<;>rfl
 |sl t l ap=>cases ap<;>rfl
 |_=>rfl
mutual
theorem ED{g e s:Nat}(hg:tS[g]? =some (.own e s)):∀(v:TV)(d:DV),RT ι S (vW g v) d->RT ι S (dY tS v) d
 |.unk,_,_=>by simp only[dY,RT]
 |.val _,d,k=>by simpa only[vW,dY]using k
 |.jD,d,k=>by simpa only[vW,dY]using k
 |.agg l,d,k=>by cases d<;>simp only[vW,dY,RT]at k⊢;exact oR hg l _ k
 |.tup l,d,k=>by cases d<;>simp only[vW,dY,RT]at k⊢;exact oR hg l _ k
 |.sl t l .no,d,k=>by simpa only[vW,dY]using k
 |.sl t l .full,d,k=>by simpa only[vW,dY]using k
 |.sl t l (.stop b),d,k=>by simpa only[vW,dY]using k
 |.sl t l (.Ci _),d,k=>by simpa only[vW,dY]using k
 |.sl t l (.oS j),d,k=>by simp only[vW]at k;simp only[dY];split at k;exact k;cases d<;>simp only[RT]at k⊢;exact⟨k.1,trivial⟩
 |.ptr id off,d,k=>by simp only[vW]at k;simp only[dY];split;rename_i hc;rw[if_neg]at k;exact k;rintro rfl;simp only[jI,hg]at hc;cases hc;simp only[RT]
 |.eU t l i off,d,k=>by simpa only[vW,dY]using k
 |.mp id,d,k=>by simp only[dY,RT]
 |.so g t,d,k=>by simp only[dY,RT]
 |.sp g t i off,d,k=>by simp only[dY,RT]
 |.nN k0 fn te,d,k=>by simp only[dY,RT]
 |.fn f a b,d,k=>by cases d<;>simp only[vW,dY,RT]at k⊢;exact⟨k.1,oR hg a _ k.2.1,oR hg b _ k.2.2⟩
theorem oR{g e s:Nat}(hg:tS[g]? =some (.own e s)):∀(l:cp)(m:cn),cq ι S (o6 g l) m->cq ι S (fI tS l) m
 |[],m,k=>k
 |a::l,m,k=>by simp only[o6]at k;obtain⟨d,m',rfl,h1,h2⟩:=ax k;simp only[fI];exact aP (ED hg a d h1) (oR hg l m' h2)
end
theorem Fg{g e s:Nat}(hg:tS[g]? =some (.own e s)):∀l:cp,Dm (fI tS l) (o6 g (l.map o7))
 |[]=>Dm.refl _
 |a::l=>by simp only[aZ,o6,fI];refine u7 (λι S d h=>?_) (Fg hg l);unfold o7 at h;split at h;rename_i t l0 g0;have:=ED hg (.sl t l0 (.oS g0)) d h;simpa only[dY]using this;exact ED hg a d h
theorem Rc{g e s:Nat}(hg:tS[g]? =some (.own e s)):∀m:cx,U5 (Ir tS g m) (m.map (pZ g))
 |[]=>U5.refl _
 |b::m=>by
  have ih:=Rc hg m;intro k;cases b with
  |cells l=>
   simp only[Ir,aZ,pZ];cases k with
   |zero=>
    refine .inr ⟨_,_,rfl,rfl,?_⟩;cases l with
    |nil=>exact Dm.refl _
    |cons a l=>
     simp only;split
     .rename_i hs;simp only[o6];refine u7 (λι S d h=>?_) (Dm.refl _);cases a<;>first|(cases hs;done)|skip
      rename_i t x ap;cases ap<;>first|(cases hs;done)|skip
      simpa only[vW]using h
     exactλι S ds h=>oR hg (a::l) ds h
   |succ k=>simpa using ih k
  |_=>
   simp only[Ir,aZ,pZ];cases k with
   |zero=>exact .inl rfl
   |succ k=>simpa using ih k
theorem Qj{e s:Nat}:∀{l:cx}{j:Nat},j<Na e s l->l[j]? =some (.own e s)
 |[],_,h=>by simp[Na]at h
 |b::l,j,h=>by
  cases b with
  |own e' s'=>
   simp only[Na]at h;split at h;rename_i hc;simp only[aC,dQ]at hc;obtain⟨rfl,rfl⟩:=hc;cases j with
   |zero=>rfl
   |succ j=>simpa using Qj (l:=l) (j:=j) ab
   omega
  |_=>simp only[Na]at h;omega
theorem Lj{e s:Nat}:∀{l:cx}{i g:Nat},(qf e s i l).1<=g->g<(qf e s i l).1+(qf e s i l).2->i<=g/\l[g-i]? =some (.own e s)
 |[],i,g,h1,h2=>by simp only[qf]at h1 h2;omega
 |b::l,i,g,h1,h2=>by
  simp only[qf]at h1 h2;cases hr:Na e s (b::l)with
  |zero=>rw[hr]at h1 h2;obtain⟨q1,q2⟩:=Lj h1 h2;refine⟨ab,?_⟩;rw[show g-i=(g-(i+1))+1 by omega];simpa using q2
  |succ n=>rw[hr]at h1 h2;simp only at h1 h2;exact⟨h1,Qj ab⟩
theorem Yh{c v:TV}{l:cp}{j:Nat}(hj:j<l.length):Nc (c::l) (j+1) [v]=some (c::l.set j v):=by unfold Nc;rw[if_pos (by simp;omega)];simp only[List.take_succ_cons,gM,cT,gr,eO,List.drop_succ_cons,aF,List.cons.injEq,true_and];rw[qA,List.singleton_append,List.set_eq_take_append_cons_drop,if_pos hj]
theorem aeQ{v:TV}{c:Prop}(h:Cr ty tt te tS o=some (.ix v c))(hc:c):bI P ty tt te tS o=some (v,True)/\(∃t x i,o.op=.indexAddr t x i):=by unfold Cr at h;split at h;rename_i t x i ho;refine⟨?_,_,_,_,ho⟩;split at h;rename_i id off e2;split at h;split at h;rename_i k s agg sz z n e1 e3;cases h;simp only[bI,ho,e1,e2,e3,ay,fA];rw[if_pos ⟨hc.1,ab⟩,yU];cases h;cases h;cases h;all_goals (repeat' split at h)<;>cases h
theorem aa9{id off:Nat}{t:TT}{x:List t.den}(h:Cr ty tt te tS o=some (.ld0 id off t x))(hc:off=0):(∃ap,bI P ty tt te tS o=some (.sl t x ap,True))/\kS te o=[id]/\∃t a,o.op=.load t a:=by
 unfold Cr at h;split at h
 grind
 .rename_i tl a ho;split at h
  .rename_i iG rV e3;split at h
   .rename_i c l hs;obtain⟨k1,k2⟩:=AP hs;split at h
    rotate_left
    cases h;rename_i d u e1 e2;split at h;cases h;rename_i ad8;split at h;rename_i x' hx;cases h;subst hc;unfold af1 at hx;split at hx;rename_i t' l' RH;split at hx;rename_i ht;subst ht;cases hx;exact⟨⟨RH,by simp only[bI,ho,e1,e3,k1,wD,ad8,aJ,if_false,dH,ay,fA]⟩,by simp only[kS,ho,e3],_,_,ho⟩;cases hx;cases hx;cases h
   cases h
  cases h
 all_goals (repeat' split at h)<;>cases h
theorem Wq{id off:Nat}{u:TT}{c:TV}{l:cp}{b:Bool}(h:Cr ty tt te tS o=some (.ld id off u c l b)){x:List u.den}{ap:Ap}(hx:(c::l)[off]? =some (.sl u x ap)):bI P ty tt te tS o=some (.sl u x ap,True)/\kS te o=[id]/\∃t a,o.op=.load t a:=by
 unfold Cr at h;split at h
 grind
 .rename_i tl a ho;split at h
  .rename_i iG rV e3;split at h
   .rename_i c l hs;obtain⟨k1,k2⟩:=AP hs;split at h
    rotate_left
    cases h;rename_i d u e1 e2;split at h;cases h;rename_i ad8;split at h;cases h;cases h;exact⟨by simp only[bI,ho,e1,e3,k1,wD,ad8,aJ,if_false,hx,ay,fA],by simp only[kS,ho,e3],_,_,ho⟩
   cases h
  cases h
 all_goals (repeat' split at h)<;>cases h
theorem EM{v:TV}(hp:bI P ty tt te tS o=some (v,True))(ho:(∃t x i,o.op=.indexAddr t x i)\/∃t a,o.op=.load t a):stepT P ty tt te tS o nT=some ⟨v,te,tS,kS te o,True⟩/\ny o=false:=by rcases ho with ⟨t,x,i,ho⟩|⟨t,a,ho⟩;exact⟨by simp only[stepT,ho,hp,ay],by simp only[ny,ho]⟩;exact⟨by simp only[stepT,ho,hp,ay],by simp only[ny,ho]⟩
theorem ab9{id off:Nat}{c:TV}{l:cp}{u:TT}{y:List u.den}{g j:Nat}(h:Cr ty tt te tS o=some (.st id off c l u y g))(ho:off=j+1)(hj:j<l.length)(dr:Bool):Does P ty aD call yf B o nT te tS dr λv bS bK ft=>v=.unk/\bS=te/\bK=tS.set id (.cells (c::l.set j (.sl u y (.oS g))))/\ft=⟨some [id],true⟩:=by
 unfold Cr at h;split at h
 grind
 ·(repeat' split at h)<;>cases h
 .rename_i t a x hop;split at h
  .rename_i iG rV e2;split at h
   .rename_i c' l' hs;obtain⟨k1,k2⟩:=AP hs;split at h
    rotate_left
    cases h;rename_i d u' y' g' e1 e3;split at h;rename_i hd;cases h;subst ho;have hst:stepT P ty tt te tS o nT=some ⟨.unk,te,tS.set id (.cells (c::l.set j (.sl u y (.Ci g)))),[id],True⟩:=by
     have wv:d.size=1:=by simpa using hd
     have hr:fA tt t (.sl u y (.Ci g))=.sl u y (.Ci g):=rfl;simp only[stepT,hop,e1,e2,e3,ay,hr,k1,TV.known,TV.cells,vE,cg,List.all_nil,adJ,qx,wv,yY,if_true,Yh hj,ay]
    refine Da (lq hst trivial dr) ?_;rintro v bS bK ft ⟨rfl,rfl,rfl,rfl⟩;refine⟨.unk,_,_,⟨some [id],true⟩,UA.refl _,Dm.refl _,λk=>?_,λ_=>rfl,λl h=>⟨l,h,λ_ h=>h⟩,rfl,rfl,rfl,rfl⟩;rw[aN,aN];split;split;refine .inr ⟨_,_,rfl,rfl,u7 (UA.refl _) (Ny (λι S d h=>?_) j l)⟩;cases d<;>simp only[RT,qb]at h⊢;exact h
    grind
    grind
    cases h
   cases h
  cases h
 all_goals (repeat' split at h)<;>cases h
theorem acd{e s g:Nat}{k:TT}{l:List k.den}{c:Prop}(h:Cr ty tt te tS o=some (.ap e s g k l c))(hc:c)(h1:(qf e s 0 tS).1<=g)(h2:g<(qf e s 0 tS).1+(qf e s 0 tS).2)(dr:Bool):Does P ty aD call yf B o nT te tS dr λv bS bK ft=>v=.sl k l (.Ci g)/\bS=fI tS te/\bK=Ir tS g tS/\ft=⟨some (nT::List.range' (qf e s 0 tS).1 (qf e s 0 tS).2),true⟩:=by
 obtain⟨-,hg⟩:=Lj h1 h2;rw[Nat.sub_zero]at hg;unfold Cr at h;split at h;iterate 3 (· (repeat' split at h)<;>cases h)
 .rename_i args argTypes hop;split at h
  .rename_i x y t u ha ht;split at h
   rotate_left
   cases h;rename_i k1 l0 g0 e2;split at h;rename_i Un;split at h;rename_i e0 s0 iU agg sz z0 k0 m ap1 e1 e3;split at h;rename_i k' sz' z e4;split at h;rename_i hk;subst hk;split at h;rename_i hb;cases h;simp only[af]at e3;obtain⟨v1,f1,f2⟩:=e3;have hst:stepT P ty tt (te.map o7) tS o nT=some ⟨.sl k (l0++m) (.oS g),o6 g (te.map o7),tS.map (pZ g),[g,nT],l0.length+m.length<=1000000000⟩:=by
    have hx:=HA e2;have hy:=HA f1;have hr:fA tt t (.sl k l0 (.oS g))=.sl k l0 (.oS g):=rfl;have J3:=Jx (tt:=tt) f2;have hu:∃ap2,o7 (TV.sl k m ap1)=.sl k m ap2:=by cases ap1<;>exact⟨_,rfl⟩
    obtain⟨ap2,hu⟩:=hu;rw[hu]at J3;have jY:eL (te.map o7) x=some (.sl k l0 (.oS g)):=hx;obtain⟨rfl,hh⟩:=Un;simp only[stepT,hop,ha,ht,hh,ne_eq,not_false_eq_true,and_self,if_true,e1,jY,hy,ay,hr,J3,e4,dite_true,hb,hg,yY,gq]
   refine Y1 (KN te) (Da (lq hst hc dr) ?_);rintro v bS bK ft ⟨rfl,rfl,rfl,rfl⟩;refine⟨_,_,_,_,λι S d h=>?_,Fg hg te,Rc hg tS,λ_=>rfl,λl' jZ=>⟨_,rfl,λj hj=>?_⟩,rfl,rfl,rfl,rfl⟩;cases d<;>simp only[RT,qb]at h⊢;exact h
   grind
   cases h;cases h;cases h;cases h;cases h
  cases h
 cases h
end Go.Tv
namespace Go.Tv
open Go Go.Di Go.Proofs
def bM(b:Bool)(A B:Prop):Prop:=
 match b with
 |true=>A
 |false=>B
def Aq:List Prop->Prop->Prop
 |[],R=>R
 |p::l,R=>p/\Aq l R
def cV:List Prop->Prop
 |[]=>True
 |p::l=>p/\cV l
def impl:List Prop->Prop->Prop
 |[],R=>R
 |p::l,R=>p->impl l R
inductive tG:Type 1
 |ex (α:Type) (k:α->tG)
 |res (v:TV) (cs:cp) (facts:List Prop)
def tG.all:tG->(TV->cp->List Prop->Prop)->Prop
 |.ex _ k,K=>∀x,(k x).all K
 |.res v cs fs,K=>K v cs fs
def tG.some:tG->(TV->cp->List Prop->Prop)->Prop
 |.ex _ k,K=>∃x,(k x).some K
 |.res v cs fs,K=>K v cs fs
def tG.holds (s:tG)(v:TV)(cs:cp):Prop:=s.some λv' iB fs=>v=v'/\cs=iB/\cV fs
def tG.uo (s:tG)(v:TV):Prop:=s.some λv' _ fs=>v=v'/\cV fs
def tG.AD (s:tG)(cs:cp):Prop:=s.some λ_ iB fs=>cs=iB/\cV fs
abbrev Sp:=Option (List Prop×tG)
structure Bd where
 sl:List (Nat×TV)
 pl:List (Nat×cp):=[]
 own:List (Nat×Nat):=[]
 gV:List Prop:=[]
 mp:List (Nat×(Σkt:TT,List kt.den)):=[]
 m:Nat:=0
inductive LA:Type 1
 |ex (α:Type) (k:α->LA)
 |st (b:Bd)
 |un (n:Nat)
 |dep (f:cp->cx->LA)
 |pe (n:Nat) (a:LA)
def LA.acU:LA->Nat
 |.pe n _=>n
 |_=>0
def LA.inner:LA->LA
 |.pe _ a=>a
 |a=>a
def LA.at (la:LA)(te:cp)(tS:cx):LA:=
 match la with
 |.dep f=>f te tS
 |la=>la
def ajZ(te:cp)(i:Nat)(k:cj->LA):LA:=
 match te.getD i .unk with
 |.sl (.int .i64) l _=>k l
 |_=>.un 0
def LA.all:LA->(Bd->Prop)->Prop
 |.ex _ k,K=>∀x,(k x).all K
 |.st b,K=>K b
 |_,_=>True
def LA.some:LA->(Bd->Prop)->Prop
 |.ex _ k,K=>∃x,(k x).some K
 |.st b,K=>K b
 |_,_=>False
structure ij where
 I:FuncId->cp->Sp
 C:FuncId->cp->cp->Sp
 N:FuncId->cp->Sp
 X:FuncId->Option (Func×List (Nat×LA)):=λ_=>none
 O:FuncId->cp->Option (List Prop×TypeId×tG):=λ_ _=>none
 M:FuncId->cp->List cp->Sp:=λ_ _ _=>none
 me:Option FuncId:=none
 yp:List Tmp×Code×Code:=([],.skip,.skip)
 Y:List (Nat×LA):=[]
structure ql (T:ij) (aD:bT) (call:bg):Prop where
 I:∀g a p s,T.I g a=some (p,s)->cV p->ug aD g a λv=>s.uo v
 C:∀g a c p s,T.C g a c=some (p,s)->cV p->BM call g a c λv cs=>s.holds v cs
 N:∀g a p s,T.N g a=some (p,s)->cV p->DI aD call g a λcs=>s.AD cs
 O:∀g a p e s,T.O g a=some (p,e,s)->cV p->ads call g a e λv=>s.uo v
 M:∀g a t p s,T.M g a t=some (p,s)->cV p->Gx call g a t λv t=>s.holds v (t.map .agg)
mutual
def fZ(v:TV)(K:TV->Prop):Prop:=
 match v with
 |.unk=>K .unk
 |.val (.int k n)=>K (.val (.int k n))
 |.val (.bool b)=>K (.val (.bool b))
 |.val v=>K (.val v)
 |.jD=>K .jD
 |.agg l=>cO l λl=>K (.agg l)
 |.tup l=>cO l λl=>K (.tup l)
 |.sl t l ap=>K (.sl t l ap)
 |.ptr id off=>K (.ptr id off)
 |.eU t l i off=>K (.eU t l i off)
 |.mp id=>K (.mp id)
 |.so g t=>K (.so g t)
 |.sp g t i off=>K (.sp g t i off)
 |.nN k fn te=>cO te λte=>K (.nN k fn te)
 |.fn f a b=>cO a λa=>cO b λb=>K (.fn f a b)
def cO(l:cp)(K:cp->Prop):Prop:=
 match l with
 |[]=>K []
 |a::l=>fZ a λa=>match qO a with
  |true=>K (a::l)
  |false=>cO l λl=>K (a::l)
end
def bP(l:cx)(K:cx->Prop):Prop:=
 match l with
 |[]=>K []
 |.cells c::l=>cO c λc=>bP l λl=>K (.cells c::l)
 |.none::l=>bP l λl=>K (.none::l)
 |.loop::l=>bP l λl=>K (.loop::l)
 |.own e s::l=>bP l λl=>K (.own e s::l)
 |.map kt c::l=>bP l λl=>K (.map kt c::l)
 |.rows t e c z::l=>bP l λl=>K (.rows t e c z::l)
def FK:cp->Nat->TV->(cp->Prop)->Prop
 |[],_,_,K=>K []
 |_::l,0,v,K=>K (v::l)
 |a::l,n+1,v,K=>FK l n v λl=>K (a::l)
def fU(te:cp)(dst:Option Tmp)(v:TV)(K:cp->Prop):Prop:=
 match dst with
 |some d=>FK te d v K
 |none=>K te
mutual
def Zt:TV->TV->Option (List Prop)
 |.unk,.unk=>some []
 |.val (.int k a),.val (.int k' b)=>if k=k' then some [a=b]else none
 |.val (.bool a),.val (.bool b)=>some [a=b]
 |.val a,.val b=>some [a=b]
 |.jD,.jD=>some []
 |.agg l,.agg m=>RG l m
 |.tup l,.tup m=>RG l m
 |.sl t l .no,.sl t' l' .no=>if h:t=t' then some [h▸l=l']else none
 |.sl t l .full,.sl t' l' .full=>if h:t=t' then some [h▸l=l']else none
 |.sl t l (.oS g),.sl t' l' (.oS g')=>if h:t=t' then if g=g' then some [h▸l=l']else none else none
 |.sl t l (.stop b),.sl t' l' (.stop b')=>if h:t=t' then if b=b' then some [h▸l=l']else none else none
 |.ptr i o,.ptr i' o'=>if i=i'/\o=o' then some []else none
 |.mp i,.mp i'=>if i=i' then some []else none
 |.nN k fn te,.nN k' tF bS=>if k=k'/\fn=tF then RG te bS else none
 |.so i t,.so i' t'=>if i=i'/\t=t' then some []else none
 |.eU t l i o,.eU t' l' i' o'=>if h:t=t' then some [h▸l=l',i=i',o=o']else none
 |.fn f a b,.fn f' a' b'=>if f=f' then match RG a a',RG b b' with
  |some x,some y=>some (x++y)
  |_,_=>none else none
 |_,_=>none
def RG:cp->cp->Option (List Prop)
 |[],[]=>some []
 |a::l,b::m=>match qO a with
  |true=>(Zt a b).map (·++[l=m])
  |false=>match Zt a b,RG l m with
   |some x,some y=>some (x++y)
   |_,_=>none
 |_,_=>none
end
mutual
def leT:TV->TV->Option (List Prop)
 |_,.unk=>some []
 |.sl t l _,.sl t' l' .no=>if h:t=t' then some [h▸l=l']else none
 |.sl t l _,.sl t' l' (.stop _)=>if h:t=t' then some [h▸l=l']else none
 |.sl t l .full,.sl t' l' (.oS _)=>match l with
  |[]=>if t=t' then some [[]=l']else none
  |_::_=>none
 |.jD,.sl _ l _=>some [[]=l]
 |.agg l,.agg m=>Ie l m
 |v,u=>Zt v u
def Ie:cp->cp->Option (List Prop)
 |[],[]=>some []
 |a::l,b::m=>match qO b with
  |true=>(leT a b).map (·++[u6 m l])
  |false=>match leT a b,Ie l m with
   |some x,some y=>some (x++y)
   |_,_=>none
 |_,_=>none
end
def qK:cx->cx->Option (List Prop)
 |_,[]=>some []
 |_::l,.none::m=>qK l m
 |.loop::l,.loop::m=>qK l m
 |.cells a::l,.cells b::m=>match Ie a b,qK l m with
  |some x,some y=>some (x++y)
  |_,_=>none
 |.own e s::l,.own e' s'::m=>if e=e'/\s=s' then qK l m else none
 |.map kt a::l,.map kt' b::m=>if h:kt=kt' then match qK l m with
  |some y=>some ((h▸a=b)::y)
  |none=>none else none
 |.rows t e a z::l,.rows t' e' b z'::m=>if h:t=t' then if e=e'/\z=z' then match qK l m with
  |some y=>some ((h▸a=b)::y)
  |none=>none else none else none
 |[],.own _ _::m=>qK [] m
 |_,_=>none
def ask(o:Option (List Prop))(K:Prop):Prop:=
 match o with
 |some l=>Aq l K
 |none=>False
section
variable (P:Program) (ty:fo) (tt:TypeId->cJ) (T:ij)
def jC(n:Int):Prop:=-9223372036854775808<=n/\n<=9223372036854775807
def agA(a b:Int):Int:=
 match a with
 |.ofNat n=>IntKind.i64.wrap ((BitVec.ofInt 64 (.ofNat n)&&&BitVec.ofInt 64 b).toNat:Int)
 |.negSucc n=>IntKind.i64.wrap ((BitVec.ofInt 64 (.negSucc n)&&&BitVec.ofInt 64 b).toNat:Int)
def D2(te:cp)(o:Oper):Option (TV×Prop):=
 match o.op with
 |.binOp .add _ x y _=>match eL te x,eL te y with
  |some (.val (.int .i64 a)),some (.val (.int .i64 b))=>some (.val (.int .i64 (a+b)),jC (a+b))
  |some (.val (.string a)),some (.val (.string b))=>some (.val (.string (a++b)),((a.size+b.size:Nat):Int)<=9223372036854775807)
  |_,_=>none
 |.binOp .sub _ x y _=>match eL te x,eL te y with
  |some (.val (.int .i64 a)),some (.val (.int .i64 b))=>some (.val (.int .i64 (a-b)),jC (a-b))
  |_,_=>none
 |.binOp .mul _ x y _=>match eL te x,eL te y with
  |some (.val (.int .i64 a)),some (.val (.int .i64 b))=>some (.val (.int .i64 (a*b)),jC (a*b))
  |_,_=>none
 |.unOp .neg _ x=>match eL te x with
  |some (.val (.int .i64 a))=>some (.val (.int .i64 (-a)),jC (-a))
  |_=>none
 |.binOp .and _ x y _=>match eL te x,eL te y with
  |some (.val (.int .i64 a)),some (.val (.int .i64 b))=>some (.val (.int .i64 (agA a b)),True)
  |_,_=>none
 |.binOp .rem _ x y _=>match eL te x,eL te y with
  |some (.val (.int .i64 a)),some (.val (.int .i64 b))=>some (.val (.int .i64 (a.tmod b)),b≠0)
  |_,_=>none
 |_=>none
abbrev aef(xs ys:Array Value):List Field->Option Bool:=Ky P (eqV P 1) xs ys
def Vs(te:cp)(o:Oper):Option Bool:=
 match o.op with
 |.binOp .neq t x y _=>match(eL te x).bind fJ,(eL te y).bind fJ with
  |some (.agg xs),some (.agg ys)=>match P.underlying t,P.stoodInHeld t,P.eqGuardType P.depth t with
   |some (.struct fs),false,false=>(aef P xs ys fs.toList).map λr=>!r
   |_,_,_=>none
  |_,_=>none
 |.binOp .eql t x y _=>match(eL te x).bind fJ,(eL te y).bind fJ with
  |some (.agg xs),some (.agg ys)=>match P.underlying t,P.stoodInHeld t,P.eqGuardType P.depth t with
   |some (.struct fs),false,false=>aef P xs ys fs.toList
   |_,_,_=>none
  |_,_=>none
 |_=>none
def AH(o:Oper):Bool:=
 match o.op with
 |.slice .. |.indexAddr .. |.index .. =>true
 |.call {callee:=.builtin .append,.. }=>true
 |_=>false
def aem(te:cp)(o:Oper):Option (Tmp×Int×Nat):=
 match o.op with
 |.indexAddr t _ (.tmp i)=>match ty t,te[i]? with
  |some ⟨.array k _ _,_,_⟩,some (.val (.int .i64 n))=>some (i,n,k)
  |_,_=>none
 |.index t _ (.tmp i)=>match ty t,te[i]? with
  |some ⟨.array k _ _,_,_⟩,some (.val (.int .i64 n))=>some (i,n,k)
  |_,_=>none
 |_=>none
def splitK(n:Int)(K:Nat->Prop):Nat->Nat->Prop
 |0,_=>False
 |c+1,j=>bM (decide (n=(j:Int))) (K j) (splitK n K c (j+1))
def adL(te:cp)(o:Oper):Option (Bool×Prop):=
 match o.op with
 |.binOp .eql t x y _=>match ty t,eL te x,eL te y with
  |some ⟨.slice _ _ _ _,_,_⟩,some (.sl _ l _),some .jD=>some (false,l≠[])
  |some ⟨.slice _ _ _ _,_,_⟩,some .jD,some .jD=>some (true,True)
  |_,_,_=>none
 |_=>none
def ahj(o:Oper):Bool:=
 match o.op with
 |.binOp .neq .. |.binOp .eql .. =>true
 |_=>false
def PS(te:cp)(o:Oper):Option (FuncId×cp):=
 match o.op with
 |.call {callee:=.value f,args,argTypes}=>match eL te f,lD te args.toList with
  |some (.fn g fs cs),some xs=>if(fs++xs++cs).all eu then some (g,bL (fM tt fs argTypes) (fs++xs++cs))else none
  |_,_=>none
 |_=>none
def NN(te:cp)(tS:cx)(o:Oper):Option (FuncId×Nat×cp×cp):=
 match o.op with
 |.call {callee:=.value f,args,argTypes}=>match eL te f,lD te args.toList with
  |some (.fn g fs cs),some xs=>match VE (fs++xs++cs)with
   |some kp=>match yB kp (fM tt fs argTypes) (fs++xs++cs),tS[kp]? with
    |some targs,some (.cells ts)=>if(fs++xs++cs).any isRef&&(eM ts).isEmpty then some (g,kp,targs,ts)else none
    |_,_=>none
   |none=>none
  |_,_=>none
 |_=>none
def NP(te:cp)(tS:cx)(o:Oper):Option (FuncId×Nat×cp×cp):=
 match o.op with
 |.call {callee:=.value f,args,argTypes}=>match eL te f,lD te args.toList with
  |some (.fn g fs cs),some xs=>match fs++xs++cs with
   |.ptr kp off::rest=>match tS[kp]? with
    |some (.cells ts)=>if rest.all eu&&ts.all kG then some (g,kp,.ptr 0 off::bL (fM tt fs argTypes).tail rest,ts)else none
    |_=>none
   |_=>none
  |_,_=>none
 |_=>none
def ae8(md:Nat)(te:cp)(tS:cx)(o:Oper):Option (FuncId×Nat×cp×cp):=
 match md with
 |0=>NN tt te tS o
 |2=>NP tt te tS o
 |_=>none
def DD(md kp:Nat):cQ:=
 match md with
 |2=>⟨some [kp],true⟩
 |_=>⟨none,true⟩
def Kv(md:Nat)(v:TV)(cs:cp)(K:Prop):Prop:=
 match md with
 |2=>match BH v&&cs.all kG with
  |true=>K
  |false=>False
 |_=>K
def af7(te:cp)(o:Oper):Option (FuncId×cp):=
 match o.op with
 |.call {callee:=.value f,args,argTypes:=_}=>match eL te f,lD te args.toList with
  |some (.fn g fs cs),some xs=>if(fs++xs++cs).any isRef||ty.h o==1 then some (g,fs++xs++cs)else none
  |_,_=>none
 |_=>none
def adP(md:Nat)(te:cp)(o:Oper):Option (cp×Func×List (Nat×LA)):=
 match md with
 |0=>match af7 ty te o with
  |some (g,A)=>match T.X g with
   |some (fn,j)=>some (A,fn,j)
   |none=>none
  |none=>none
 |_=>none
structure Inl where
 c:Func->List (Nat×LA)->cp->cx->(TV->cx->Prop)->Prop
 y:Nat->FuncId->cp->cp->cx->(cx->Prop)->Prop
 me:Option FuncId:=none
inductive Gd
 |no (b:Bool)
 |ask (d:Tmp) (b want:Bool)
 |unk
def gdT(ops:Array Oper)(te:cp)(o:Oper):Gd:=
 match o.guard with
 |none=>.no true
 |some (j,want)=>match(ops[j]?).bind (·.dst)with
  |some d=>match te[d]? with
   |some (.val (.bool b))=>.ask d b want
   |some .unk=>.unk
   |some (.val _)=>.no false
   |_=>.unk
  |none=>.no false
abbrev KO:=cp->cx->cY->Prop
def fW:cQ:=⟨some [],false⟩
def nV(md n0 k:Nat)(tS:cx):Nat:=
 match md with
 |2=>n0+k
 |_=>tS.length
variable (inl:Inl)
def VJ(e nT:Nat)(v:TV)(K:TV->TB->Prop):Prop:=
 match v with
 |.sl t J1 .no=>K (.sl t J1 (.oS nT)) (.own e t.size)
 |_=>False
def Pz:cp->Option (List cp)
 |[]=>some []
 |.agg l::r=>(Pz r).map (l::·)
 |_=>none
theorem GC:∀t:List cp,Pz (t.map .agg)=some t
 |[]=>rfl
 |l::t=>by rw[aZ,Pz,GC t];rfl
def ael(L:cy)(cs:cp)(K:List cp->Prop):Prop:=
 match Pz cs with
 |some t=>match Ib L t with
  |some tB=>K tB
  |none=>False
 |none=>False
def Gw(md:Nat)(L:cy):cQ:=
 match md with
 |2=>⟨some L,true⟩
 |_=>⟨none,true⟩
def IA(md:Nat)(o:Oper)(te:cp)(tS:cx)(fs:cY)(K:KO):Prop:=
 match NQ tt md te tS o with
 |some (g,L,targs,tP)=>match md==1,T.M g targs tP with
  |false,some (p,s)=>Aq p (s.all λv cs facts=>impl facts (ael L cs λtB=>fZ v λv=>fU te o.dst v λte=>bP (yc L tB tS) λtS=>K te tS (fs++[Gw md L])))
  |_,_=>False
 |none=>False
def Iw(md:Nat)(o:Oper)(te:cp)(tS:cx)(fs:cY)(K:KO):Prop:=
 match ae8 tt md te tS o with
 |some (g,kp,targs,ts)=>match T.C g targs ts with
  |some (p,s)=>Aq p (s.all λv cs facts=>impl facts (Kv md v cs (fZ v λv=>fU te o.dst v λte=>cO cs λcs=>bP (tS.set kp (.cells cs)) λtS=>K te tS (fs++[DD md kp]))))
  |none=>IA tt T md o te tS fs K
 |none=>IA tt T md o te tS fs K
def adv(md:Nat)(te:cp)(tS:cx)(o:Oper):Option (Nat×FuncId×cp×cp):=
 match md==1,o.op with
 |false,.call {callee:=.value f,args,argTypes:=_}=>match eL te f with
  |some (.nN k fn Ac)=>match lD te args.toList,tS[k]? with
   |some xs,some .loop=>some (k,fn,Ac,xs)
   |_,_=>none
  |_=>none
 |_,_=>none
def adw(o:Oper)(te:cp)(tS:cx)(fs:cY)(K:KO)(k:Nat)(jA:cx):Prop:=
 bM (okB (te.map (uc tS k)) (o5 k 0 tS (jA.set k .loop))&&(dh 0 tS).all (lJ (o5 k 0 tS (jA.set k .loop)))) (cO (te.map (uc tS k)) λte=>fU te o.dst (.val (.bool true)) λte=>bP (o5 k 0 tS (jA.set k .loop)) λtS=>K te tS (fs++[⟨none,true⟩])) False
def Wb(md nT:Nat)(o:Oper)(te:cp)(tS:cx)(fs:cY)(K:KO):Prop:=
 match adv md te tS o with
 |some (k,fn,Ac,xs)=>inl.y k fn Ac xs tS (adw o te tS fs K k)
 |none=>match adP ty T md te o with
 |some (A,fn,j)=>inl.c fn j A tS λv bK=>fZ v λv=>cO (fI tS te) λte=>fU te o.dst v λte=>K te bK fs
 |none=>match ty.h o==1 with
 |true=>match md,PS tt te o with
  |0,none=>Iw tt T 0 o te tS fs K
  |2,some (g,targs)=>match T.O g targs with
   |some (p,e,s)=>Aq p (s.all λv _ facts=>impl facts (VJ e nT v λv b=>fZ v λv=>fU te o.dst v λte=>bP (nS tS nT b) λtS=>K te tS (fs++[⟨some [nT],true⟩])))
   |none=>False
  |_,_=>False
 |false=>match PS tt te o with
 |some (g,targs)=>match md==0,T.N g targs with
  |true,some (p,s)=>Aq p (s.all λ_ cs facts=>impl facts (fU te o.dst (.ptr tS.length 0) λte=>K te (tS++[.cells cs]) fs))
  |_,_=>match T.I g targs with
   |some (p,s)=>Aq p (s.all λv _ facts=>impl facts (fZ v λv=>fU te o.dst v λte=>K te tS (fs++[fW])))
   |none=>False
 |none=>Iw tt T md o te tS fs K
def mapM(md:Nat)(te:cp)(tS:cx)(o:Oper):Option (TV×cx×Prop):=
 match md with
 |0=>adM P tt te tS o tS.length
 |_=>none
def acV(md:Nat)(te:cp)(tS:cx)(o:Oper)(nT:Nat):Option (TV×cp×cx×cQ×Prop):=
 match Km ty tt te tS o with
 |some (v,g,c)=>some (v,te,tS,⟨some [g],false⟩,c)
 |none=>if md=1 then none else match VH ty tt te tS o with
  |some (g,bK)=>some (.unk,te,bK,⟨some [g],true⟩,True)
  |none=>if md=0 then(VG ty tt te tS o nT).map λr=>(r.1,r.2.1,r.2.2.1,⟨none,true⟩,r.2.2.2)else none
def aag(md n0 k:Nat)(o:Oper)(te:cp)(tS:cx)(fs:cY)(K:KO):Prop:=
 match Ak tS (nV md n0 k tS)with
 |false=>False
 |true=>match afn o with
  |true=>Wb ty tt T inl md (nV md n0 k tS) o te tS fs K
  |false=>match acV ty tt md te tS o (nV md n0 k tS)with
   |some (v,bS,bK,f,c)=>c/\fZ v λv=>cO bS λte=>fU te o.dst v λte=>bP bK λtS=>K te tS (fs++[f])
   |none=>match mapM P tt md te tS o with
   |some (v,bK,c)=>c/\fZ v λv=>fU te o.dst v λte=>bP bK λtS=>K te tS (fs++[⟨none,true⟩])
   |none=>match D2 te o with
   |some (v,c)=>c/\fU te o.dst v λte=>K te tS (fs++[fW])
   |none=>match ahj o,Vs P te o,adL ty te o with
    |true,some b,_=>fU te o.dst (.val (.bool b)) λte=>K te tS (fs++[fW])
    |true,none,some (b,c)=>c/\fU te o.dst (.val (.bool b)) λte=>K te tS (fs++[fW])
    |_,_,_=>match md with
     |1=>match bI P ty tt te tS o with
      |some q=>match AH o with
       |true=>q.2/\fZ q.1 λv=>fU te o.dst v λte=>K te tS (fs++[fW])
       |false=>fZ q.1 λv=>fU te o.dst v λte=>K te tS (fs++[fW])
      |none=>False
     |_=>match stepT P ty tt te tS o (nV md n0 k tS)with
      |some q=>match AH o with
       |true=>q.c/\fZ q.v λv=>cO q.te λte=>fU te o.dst v λte=>bP q.tS λtS=>K te tS (fs++[⟨some q.FP,ny o⟩])
       |false=>fZ q.v λv=>fU q.te o.dst v λte=>bP q.tS λtS=>K te tS (fs++[⟨some q.FP,ny o⟩])
      |none=>False
def Z9(md nT:Nat)(o:Oper)(te:cp)(tS:cx)(fs:cY)(K:KO):aeo->Prop
 |.ix v c=>c/\fU te o.dst v λte=>K te tS (fs++[fW])
 |.ld0 id off t x=>bM (off==0) (fU te o.dst (.sl t x .no) λte=>K te tS (fs++[⟨some [id],false⟩])) False
 |.ld id off u c l b=>match b with
  |true=>∃(x:List u.den)(g:Nat),(c::l)[off]? =some (.sl u x (.oS g))/\fU te o.dst (.sl u x (.Ci g)) λte=>K te tS (fs++[⟨some [id],false⟩])
  |false=>∃x:List u.den,(c::l)[off]? =some (.sl u x .no)/\fU te o.dst (.sl u x .no) λte=>K te tS (fs++[⟨some [id],false⟩])
 |.st id off c l u y g=>match md==1 with
  |true=>False
  |false=>∃j,off=j+1/\j<l.length/\fU te o.dst .unk λte=>bP (tS.set id (.cells (c::aiU l j (.sl u y (.oS g))))) λtS=>K te tS (fs++[⟨some [id],true⟩])
 |.ap e s g k l c=>match md==1,qf e s 0 tS with
  |false,(lo,n)=>(lo<=g/\g<lo+n)/\c/\cO (fI tS te) λte=>fU te o.dst (.sl k l (.Ci g)) λte=>bP (Ir tS g tS) λtS=>K te tS (fs++[⟨some (nT::List.range' lo n),true⟩])
  |_,_=>False
def RM(md n0 k:Nat)(o:Oper)(te:cp)(tS:cx)(fs:cY)(K:KO):Prop:=
 match Cr ty tt te tS o with
 |some q=>match Ak tS (nV md n0 k tS)with
  |true=>Z9 md (nV md n0 k tS) o te tS fs K q
  |false=>False
 |none=>match aem ty te o with
 |some (t,n,c)=>splitK n (λj=>FK te t (.val (.int .i64 (j:Int))) λte=>aag P ty tt T inl md n0 k o te tS fs K) c 0
 |none=>aag P ty tt T inl md n0 k o te tS fs K
def opK(md n0 k:Nat)(o:Oper)(te:cp)(tS:cx)(fs:cY)(K:KO):Prop:=
 match md,ty.h o with
 |0,2=>match Nd ty te tS o with
  |some (te,tS)=>cO te λte=>bP tS λtS=>RM P ty tt T inl md n0 k o te tS fs K
  |none=>False
 |_,_=>RM P ty tt T inl md n0 k o te tS fs K
def PA(o:Oper)(te:cp)(tS:cx)(fs:cY)(K:KO):Prop:=fU te o.dst RI λte=>K te tS (fs++[fW])
def qd(md n0:Nat)(ops:Array Oper):List Oper->Nat->cp->cx->cY->KO->Prop
 |[],_,te,tS,fs,K=>K te tS fs
 |o::r,k,te,tS,fs,K=>match gdT ops te o with
  |.no true=>opK P ty tt T inl md n0 k o te tS fs λte tS fs=>qd md n0 ops r (k+1) te tS fs K
  |.no false=>PA o te tS fs λte tS fs=>qd md n0 ops r (k+1) te tS fs K
  |.ask d b want=>match want with
   |true=>bM b (FK te d (.val (.bool true)) λte=>opK P ty tt T inl md n0 k o te tS fs λte tS fs=>qd md n0 ops r (k+1) te tS fs K) (FK te d (.val (.bool false)) λte=>PA o te tS fs λte tS fs=>qd md n0 ops r (k+1) te tS fs K)
   |false=>bM b (FK te d (.val (.bool true)) λte=>PA o te tS fs λte tS fs=>qd md n0 ops r (k+1) te tS fs K) (FK te d (.val (.bool false)) λte=>opK P ty tt T inl md n0 k o te tS fs λte tS fs=>qd md n0 ops r (k+1) te tS fs K)
  |.unk=>False
def ajU(d:Option Tmp):Nat:=
 match d with
 |some d=>2^d
 |none=>0
def afc(o:Oper):Nat:=o.op.operands.foldl (λa x=>match x with|.tmp t=>a|||2^t|_=>a) 0
def defs:Code->Nat
 |.region _ ops _=>ops.foldl (λa o=>a|||ajU o.dst) 0
 |.seq a b|.cond _ a b=>defs a|||defs b
 |.block _ c|.loop c|.scope c=>defs c
 |_=>0
def nA:Code->Nat
 |.region _ ops _=>ops.foldl (λa o=>a|||afc o) 0
 |.seq a b=>nA a|||nA b
 |.cond x a b=>(match x with|.tmp t=>2^t|_=>0)|||nA a|||nA b
 |.block _ c|.loop c|.scope c=>nA c
 |.rangeFunc x _ a b=>(match x with|.tmp t=>2^t|_=>0)|||nA a|||nA b
 |_=>0
def cnt:Code->Nat
 |.seq a b=>1+cnt a+cnt b
 |.cond _ a b=>cnt a+cnt b
 |.block _ c|.scope c=>cnt c
 |.loop c=>1+cnt c
 |_=>0
def ot(sl:List (Nat×TV))(keep:Nat):Nat->cp->cp
 |_,[]=>[]
 |i,v::l=>(match sl.find? λp=>p.1==i with
  |some p=>p.2
  |none=>match keep.testBit i with
   |true=>v
   |false=>.unk)::ot sl keep (i+1) l
def wL(sl:List (Nat×TV)):Nat->cp->Option (List Prop)
 |_,[]=>some []
 |i,v::l=>match sl.find? λp=>p.1==i with
  |some p=>match leT v p.2,wL sl (i+1) l with
   |some x,some y=>some (x++y)
   |_,_=>none
  |none=>wL sl (i+1) l
abbrev MpL:=List (Nat×(Σkt:TT,List kt.den))
def tX(pl:List (Nat×cp))(mp:MpL):Nat->cx->cx
 |_,[]=>[]
 |i,.cells c::l=>(match pl.find? λp=>p.1==i with
  |some p=>.cells p.2
  |none=>.cells c)::tX pl mp (i+1) l
 |i,.map kt c::l=>(match mp.find? λp=>p.1==i with
  |some (_,⟨kt',c'⟩)=>.map kt' c'
  |none=>.map kt c)::tX pl mp (i+1) l
 |i,.rows t e c z::l=>(match mp.find? λp=>p.1==i with
  |some (_,⟨t',c'⟩)=>.rows t' e c' z
  |none=>.rows t e c z)::tX pl mp (i+1) l
 |i,.own e s::l=>.own e s::tX pl mp (i+1) l
 |i,.none::l=>.none::tX pl mp (i+1) l
 |i,.loop::l=>.loop::tX pl mp (i+1) l
def jg(pl:List (Nat×cp))(mp:MpL):Nat->cx->Option (List Prop)
 |_,[]=>some []
 |i,.cells c::l=>match pl.find? λp=>p.1==i with
  |some p=>match Ie c p.2,jg pl mp (i+1) l with
   |some x,some y=>some (x++y)
   |_,_=>none
  |none=>jg pl mp (i+1) l
 |i,.map kt c::l=>match mp.find? λp=>p.1==i with
  |some (_,⟨kt',c'⟩)=>if h:kt=kt' then match jg pl mp (i+1) l with
   |some y=>some ((h▸c=c')::y)
   |none=>none else none
  |none=>jg pl mp (i+1) l
 |i,.rows t _ c _::l=>match mp.find? λp=>p.1==i with
  |some (_,⟨t',c'⟩)=>if h:t=t' then match jg pl mp (i+1) l with
   |some y=>some ((h▸c=c')::y)
   |none=>none else none
  |none=>jg pl mp (i+1) l
 |i,.own _ _::l=>jg pl mp (i+1) l
 |i,.none::l=>jg pl mp (i+1) l
 |i,.loop::l=>jg pl mp (i+1) l
def yy(b:Bd)(tS:cx):cx:=tX b.pl b.mp 0 tS++b.own.map λp=>.own p.1 p.2
abbrev KC:=DX->cp->cx->Prop
def adn(J:List (Nat×LA))(i:Nat)(te:cp)(tS:cx):Option LA:=
 match J.find? λp=>p.1==i with
 |some p=>some (p.2.at te tS)
 |none=>none
def W9(B:cy)(b:Bd)(keep:Nat)(te:cp)(tS:cx)(K:Prop):Prop:=
 bM (okB (ot b.sl keep 0 te) (yy b tS)&&B.all (lJ (yy b tS))) (ask (wL b.sl 0 te) (ask (jg b.pl b.mp 0 tS) (Aq b.gV K))) False
def Wc(B:cy)(mh:cp)(iq:cx)(b:Bd)(te:cp)(tS:cx)(K:Prop):Prop:=
 bM (okB mh iq&&B.all (lJ iq)) (ask (Ie te mh) (ask (qK tS iq) (Aq b.gV K))) False
def unK(f:cp->cx->(cp->cx->Prop)->Prop)(K:cp->cx->Prop):Nat->cp->cx->Prop
 |0,te,tS=>K te tS
 |n+1,te,tS=>f te tS (unK f K n)
def NM(P:Program):Code->Option (Array Oper)
 |.region _ ops true=>if wI P ops then none else some ops
 |_=>none
def WU(keep:Nat)(ops:Array Oper):Bool:=ops.toList.all λo=>match o.dst with
 |some d=>!keep.testBit d
 |none=>true
def VB(x:Operand)(te:cp)(v:Bool)(K:cp->Prop):Prop:=
 match x with
 |.tmp t=>FK te t (.val (.bool v)) K
 |_=>K te
def WR(tS:cx)(k:Nat):Bool:=
 match tS[k]? with
 |some .loop=>true
 |_=>false
variable (B:cy) (J:List (Nat×LA))
def x5:Code->Nat->Nat->cp->cx->KC->Prop
 |.skip,_,_,te,tS,K|.label _,_,_,te,tS,K=>K .normal te tS
 |.exit id,_,_,te,tS,K=>K (.exit id) te tS
 |.ret,_,_,te,tS,K=>K .ret te tS
 |.scope c,i,lv,te,tS,K=>x5 c i lv te tS K
 |.block id c,i,lv,te,tS,K=>x5 c i lv te tS λe te tS=>match e with
  |.exit iG=>if iG=id then K .normal te tS else K (.exit iG) te tS
  |.normal=>K .normal te tS
  |.ret=>K .ret te tS
 |.cond x a b,i,lv,te,tS,K=>match eL te x with
  |some (.val (.bool t))=>bM t (VB x te true λte=>x5 a i lv te tS K) (VB x te false λte=>x5 b (i+cnt a) lv te tS K)
  |_=>False
 |.seq a b,i,lv,te,tS,K=>match adn J i te tS with
  |some la=>match NM P a with
   |some ops=>bM (lR ops (Region.before ops)&&WU ((lv|||nA b)&&&(2^400-1-(defs a))) ops) (qd P ty tt T inl 1 0 ops ops.toList 0 te tS [] λbS _ _=>la.some λbd=>ask (wL bd.sl 0 bS) (Aq bd.gV True)) False/\
    la.all λbd=>impl bd.gV (cO (ot bd.sl ((lv|||nA b)&&&(2^400-1-(defs a))) 0 te) λmh=>x5 b (i+1+cnt a) lv mh tS K)
   |none=>x5 a (i+1) (lv|||nA b) te tS (λe bS bK=>match e with
    |.normal=>la.some λbd=>Wc B (ot bd.sl ((lv|||nA b)&&&(2^400-1-(defs a))) 0 te) (yy bd tS) bd bS bK True
    |.exit id=>K (.exit id) bS bK
    |.ret=>K .ret bS bK)/\la.all λbd=>impl bd.gV (cO (ot bd.sl ((lv|||nA b)&&&(2^400-1-(defs a))) 0 te) λmh=>bP (yy bd tS) λiq=>x5 b (i+1+cnt a) lv mh iq K)
  |none=>x5 a (i+1) (lv|||nA b) te tS λe te tS=>match e with
   |.normal=>x5 b (i+1+cnt a) lv te tS K
   |.exit id=>K (.exit id) te tS
   |.ret=>K .ret te tS
 |.loop c,i,lv,te,tS,K=>match adn J i te tS with
  |some la=>unK (λte tS K'=>x5 c (i+1) (lv|||nA c) te tS λe te tS=>match e with
    |.normal=>K' te tS
    |.exit id=>K (.exit id) te tS
    |.ret=>K .ret te tS) (λte tS=>match la.inner.at te tS with
     |.un n=>unK (λte tS K'=>x5 c (i+1) (lv|||nA c) te tS λe te tS=>match e with
      |.normal=>K' te tS
      |.exit id=>K (.exit id) te tS
      |.ret=>K .ret te tS) (λ_ _=>False) (min n 1000) te tS
     |la=>(la.some λbd=>W9 B bd ((lv|||nA c)&&&(2^400-1-(defs c))) te tS (bd.m<1000000))/\
   la.all λbd=>impl bd.gV (cO (ot bd.sl ((lv|||nA c)&&&(2^400-1-(defs c))) 0 te) λmh=>bP (yy bd tS) λiq=>x5 c (i+1) (lv|||nA c) mh iq λe bS bK=>match e with
    |.normal=>la.some λbd'=>Wc B (ot bd'.sl ((lv|||nA c)&&&(2^400-1-(defs c))) 0 te) (yy bd' tS) bd' bS bK (bd'.m<bd.m)
    |.exit id=>K (.exit id) bS bK
    |.ret=>K .ret bS bK)) (min la.acU 1000) te tS
  |none=>False
 |.region _ ops draw,_,_,te,tS,K=>match draw with
  |true=>match wI P ops with
   |true=>bM (lR ops (Region.before ops)) (bP (tS++List.replicate ops.size .none) λmU=>qd P ty tt T inl 2 tS.length ops ops.toList 0 te mU [] λte tS fs=>bM (tR (Region.before ops) fs) (bP (o8 tS) λtS=>K .normal te tS) False) False
   |false=>bM (lR ops (Region.before ops)) (qd P ty tt T inl 1 0 ops ops.toList 0 te tS [] λte _ _=>K .normal te tS) False
  |false=>qd P ty tt T inl 0 0 ops ops.toList 0 te tS [] λte tS _=>bP (o8 tS) λtS=>K .normal te tS
 |.rangeFunc f _ _ _,_,_,te,tS,K=>match inl.me,eL te f with
  |some me,some (.fn g fs cs)=>match T.X g with
   |some (fn,j)=>inl.c fn j (fs++[.nN tS.length me (fI tS te)]++cs) (tS++[.loop]) λ_ bK=>bM (WR bK tS.length&&!(eM (fI tS te)++od bK).contains tS.length) (cO (fI tS te) λte=>bP (bK.set tS.length .none) λtS=>K .normal te tS) False
   |none=>False
  |_,_=>False
 |_,_,_,_,_,_=>False
def aed(ty:fo)(rs:List ResultVar)(lE:List cJ)(s:tG)(te:cp)(tS:cx):Prop:=
 match xo ty te tS rs with
 |some vs=>cO (yj tS vs) λvs=>bM (vs.all eu&&(refs (kC (bL lE vs))).isEmpty) (s.some λv _ facts=>ask (Zt (kC (bL lE vs)) v) (cV facts)) False
 |none=>False
def aee(ty:fo)(rs:List ResultVar)(lE nM:List cJ)(s:tG)(te:cp)(tS:cx):Prop:=
 match xo ty te tS rs,tS with
 |some vs,.cells ts::_=>bM (vs.all eu&&(refs (kC (bL lE vs))).isEmpty&&(ts.all eu&&(eM (bL nM ts)).isEmpty)) (s.some λv cs facts=>ask (Zt (kC (bL lE vs)) v) (ask (RG (bL nM ts) cs) (cV facts))) False
 |_,_=>False
def ajO(ty:fo)(rs:List ResultVar)(lE:List cJ)(n:Nat)(s:tG)(te:cp)(tS:cx):Prop:=
 match xo ty te tS rs,VS n tS (List.range n)with
 |some vs,some t=>bM (vs.all eu&&BH (kC (bL lE vs))) (s.some λv cs facts=>ask (Zt (kC (bL lE vs)) v) (ask (RG (t.map .agg) cs) (cV facts))) False
 |_,_=>False
def VL(nM:List cJ)(ts:cp):cp:=
 match nM,ts with
 |[],a::l=>match qO a with
  |true=>kE none a::bL [] l
  |false=>bL [] (a::l)
 |nM,ts=>bL nM ts
def aec(ty:fo)(rs:List ResultVar)(nM:List cJ)(s:tG)(te:cp)(tS:cx):Prop:=
 match xo ty te tS rs,tS with
 |some [.ptr 0 0],.cells ts::_=>bM (ts.all eu&&(eM (bL nM ts)).isEmpty) (s.some λ_ cs facts=>ask (RG (VL nM ts) cs) (cV facts)) False
 |_,_=>False
def ajN(ty:fo)(rs:List ResultVar)(e:TypeId)(s:tG)(te:cp)(tS:cx):Prop:=
 match xo ty te tS rs with
 |some [.sl t J1 (.oS g)]=>match tS[g]? with
  |some (.own e' n)=>bM (e'==e&&n==t.size) (s.some λv _ facts=>ask (Zt (.sl t J1 .no) v) (cV facts)) False
  |_=>False
 |_=>False
def Nu(F:cp->cx->Prop)(e:DX)(te:cp)(tS:cx):Prop:=
 match e with
 |.exit _=>False
 |.normal=>F te tS
 |.ret=>F te tS
end
def vn(rs:List ResultVar):Nat:=rs.foldl (λa x=>match x with|.tmp t=>a|||2^t|.cell t _=>a|||2^t) 0
def Nh(n:Nat)(l:cp):cp:=l++List.replicate (n-l.length) .unk
def qj(f:Func):Code:=f.body.getD .skip
def aeb(ty:fo)(rs:List ResultVar)(K:TV->cx->Prop)(te:cp)(tS:cx):Prop:=
 match xo ty te tS rs with
 |some vs=>K (kC vs) tS
 |none=>False
def RL(n:Nat)(tS:cx):cx:=tS++List.replicate (n-tS.length) .none
def aeh(k:Nat)(tS:cx)(K:cx->Prop):Prop:=
 match tS[k]? with
 |some .none=>K tS
 |_=>False
def adx(P:Program)(ty:fo)(tt:TypeId->cJ)(T:ij)(inl:Inl)(k:Nat)(fn:FuncId)(Ac xs:cp)(tS:cx)(K:cx->Prop):Prop:=
 match T.me,T.yp with
 |some me,(ps,ox,body)=>bM (me==fn&&xs.length==ps.length&&!(eM (oc Ac (ps.zip xs))++od tS).contains k) (cO (oc Ac (ps.zip xs)) λte=>bP (tS.set k .none) λmU=>x5 P ty tt T inl (nY k tS) T.Y ox 0 (nA body) te mU λe te iq=>match e with
  |.normal=>x5 P ty tt T inl (nY k tS) T.Y body (cnt ox) 0 te iq λe _ jA=>match e with
   |.normal=>aeh k (RL tS.length jA) K
   |_=>False
  |_=>False) False
 |none,_=>False
def RP(P:Program)(ty:fo)(tt:TypeId->cJ)(T:ij):Nat->Inl
 |0=>⟨λ_ _ _ _ _=>False,λ_ _ _ _ _ _=>False,none⟩
 |d+1=>⟨λfn j A tS K=>cO (Nh fn.ntmps A) λte=>x5 P ty tt T (RP P ty tt T d) (dh 0 tS) j (qj fn) 0 (vn fn.results.toList) te tS (Nu (aeb ty fn.results.toList K)),adx P ty tt T (RP P ty tt T d),none⟩
def RO(P:Program)(ty:fo)(tt:TypeId->cJ)(T:ij)(d:Nat):Inl:=⟨(RP P ty tt T d).c,(RP P ty tt T d).y,T.me⟩
end Go.Tv
