import Derived.Test.YtedcgbkilmlbhaaPk08
namespace Go.Tv
open Go Go.Di Go.Proofs
def Dw(tS:List TB)(k:Nat):Option (TV×List TV):=
 match tS[k]? with
 |some (.cells (a::l))=>match qZ a with
  |true=>some (a,l)
  |false=>none
 |_=>none
def Mz(e s:Nat):List TB->Nat
 |.own e' s'::l=>match e'==e&&s'==s with
  |true=>Mz e s l+1
  |false=>0
 |_=>0
def pP(e s:Nat):Nat->List TB->Nat×Nat
 |i,[]=>(i,0)
 |i,b::l=>match Mz e s (b::l)with
  |0=>pP e s (i+1) l
  |n+1=>(i,n+1)
def HY(tS:List TB)(g:Nat):List TB->List TB
 |[]=>[]
 |.cells l::m=>.cells (match l with
  |[]=>[]
  |a::l=>match qZ a with
   |true=>a::kB g l
   |false=>ga tS (a::l))::HY tS g m
 |b::m=>b::HY tS g m
def YY(l:List TV)(j:Nat)(v:TV):List TV:=l.set j v
inductive ads where
 |ix (v:TV) (c:Prop)
 |ld0 (id off:Nat) (t:TT) (x:List t.den)
 |ld (id off:Nat) (u:TT) (c:TV) (l:List TV) (b:Bool)
 |st (id off:Nat) (c:TV) (l:List TV) (u:TT) (y:List u.den) (g:Nat)
 |ap (e s g:Nat) (k:TT) (l:List k.den) (c:Prop)
def ad6:TV->Bool
 |.sl _ _ (.stop b)=>b
 |_=>false
def afd(u:TT):TV->Option (List u.den)
 |.sl t l _=>if h:t=u then some (h▸l)else none
 |_=>none
section
variable (P:Program) (ty:fR) (tt:TypeId->Option TT)
def Cn(te:List TV)(tS:List TB)(o:Oper):Option ads:=
 match o.op with
 |.indexAddr t x i=>match fK te x with
  |some (.ptr id off)=>match Dw tS id with
   |some _=>match ty t,HQ te i with
    |some ⟨.array k s _,_,_⟩,some n=>some (.ix (.ptr id (n.toNat*s+off)) (0<=n/\n<(k:Int)))
    |_,_=>none
   |none=>none
  |_=>none
 |.load t a=>match fK te a with
  |some (.ptr id off)=>match Dw tS id with
   |some (c,l)=>match ty t,tt t with
    |some d,some (.sl u)=>match d.k.isAgg with
     |true=>none
     |false=>match afd u c with
      |some x=>some (.ld0 id off u x)
      |none=>some (.ld id off u c l (ad6 c))
    |_,_=>none
   |none=>none
  |_=>none
 |.store t a x=>match fK te a with
  |some (.ptr id off)=>match Dw tS id with
   |some (c,l)=>match ty t,fK te x with
    |some d,some (.sl u y (.Cf g))=>match d.size==1 with
     |true=>some (.st id off c l u y g)
     |false=>none
    |_,_=>none
   |none=>none
  |_=>none
 |.call {callee:=.builtin .append,args,argTypes}=>match args.toList,argTypes.toList with
  |[x,y],[t,u]=>match fK te x with
   |some (.sl k l (.Cf g))=>if t=u/\ty.h o≠1 then match ty t,(fK te y).map (fM tt t)with
    |some ⟨.slice e s lR _,_,_⟩,some (.sl k' m _)=>match ty e with
     |some ⟨_,_,some _⟩=>if h:k'=k then
      if decide (0<s)&&decide (lR<=100000)&&k.size==s then some (.ap e s g k (l++(h▸m)) (l.length+m.length<=1000000000))else none
      else none
     |_=>none
    |_,_=>none
    else none
   |_=>none
  |_,_=>none
 |_=>none
end
variable {P:Program} {ty:fR} {tt:TypeId->Option TT} {ι ι' w:kY} {S S':ai} {te bX:List TV} {env:List DV} {tS bN:List TB} {aK:bR} {call:bt} {yf:ej} {o:Oper} {aF nT:Nat} {B:List Nat} {ops:Array Oper}
def SS(u v:TV):Prop:=∀ι S d,RT ι S v d->RT ι S u d
def Dc(l m:List TV):Prop:=∀ι S ds,cK ι S m ds->cK ι S l ds
def Tx(bN tS:List TB):Prop:=∀k:Nat,bN[k]? =tS[k]? \/∃a b,bN[k]? =some (.cells a)/\tS[k]? =some (.cells b)/\Dc a b
theorem Dc.refl (l:List TV):Dc l l:=λ_ _ _ h=>h
theorem SS.refl (v:TV):SS v v:=λ_ _ _ h=>h
theorem Tx.refl (tS:List TB):Tx tS tS:=λ_=>.inl rfl
theorem vt{u v:TV}{l m:List TV}(h:SS u v)(k:Dc l m):Dc (u::l) (v::m):=λι S ds hd=>by obtain⟨d,m',rfl,h1,h2⟩:=aj hd;exact aT (h _ _ _ h1) (k _ _ _ h2)
theorem MT{u v:TV}(h:SS u v):∀(i:Nat)(l:List TV),Dc (l.set i u) (l.set i v)
 |_,[]=>Dc.refl _
 |0,_::l=>vt h (Dc.refl l)
 |i+1,a::l=>vt (SS.refl a) (MT h i l)
theorem adP{u v:TV}(h:SS u v)(dst:Option Tmp)(l:List TV):Dc (j8 l dst u) (j8 l dst v):=by
 cases dst with
 |none=>exact Dc.refl _
 |some d=>exact MT h d l
theorem M6(h:bT ι te tS env S)(h1:Dc bX te)(h2:Tx bN tS):bT ι bX bN env S:=by
 refine⟨h1 _ _ _ h.env,λk l hk=>?_,λk e s hk=>?_,λk k' hk=>?_,h.inj,λk b hk t ht=>?_⟩
 .rcases h2 k with e|⟨a,b,e1,e2,e3⟩;.exact h.cells k l (e▸hk)
  rw[e1]at hk;cases hk;obtain⟨k',ds,n1,n2,n3⟩:=h.cells k b e2;exact⟨k',ds,n1,n2,e3 _ _ _ n3⟩
 .rcases h2 k with e'|⟨a,b,e1,e2,e3⟩;.exact h.own k e s (e'▸hk)
  rw[e1]at hk;cases hk
 .obtain⟨b,n1,n2⟩:=h.ql k k' hk;rcases h2 k with e|⟨a,b',e1,e2,e3⟩;.exact⟨b,e.trans n1,n2⟩
  exact⟨_,e1,by simp⟩
 rcases h2 k with e|⟨a,b',e1,e2,e3⟩;.exact h.mp k b (e▸hk) t ht
 rw[e1]at hk;cases hk;trivial
theorem aeX(h:oE B tS)(h2:Tx bN tS):oE B bN:=λk hk=>by
 obtain⟨l,h1⟩:=h k hk;rcases h2 k with e|⟨a,b',e1,e2,e3⟩;.exact⟨l,e.trans h1⟩
 exact⟨some a,e1⟩
theorem afO{k:Nat}{Q:List TV->Prop}(h:Dc bX te)(hq:WQ P ty aK call yf ops tS k bX Q):WQ P ty aK call yf ops tS k te Q:=
 λι env S hR=>hq ι env S (M6 hR h (Tx.refl _))
theorem CZ{dr:Bool}{Q Q':TV->List TV->List TB->de->Prop}(h:Does P ty aK call yf B o nT te tS dr Q)(hq:∀v bX bN ft,Q v bX bN ft->∃v2 SZ jQ ft2,SS v2 v/\Dc SZ bX/\Tx jQ bN/\(ft.wr=true->ft2.wr=true)/\(∀l,ft2.ids=some l->∃l',ft.ids=some l'/\∀j∈l',j∈l)/\Q' v2 SZ jQ ft2):Does P ty aK call yf B o nT te tS dr Q':=by
 intro ι w env S aF hR hB hw hT hn hS;obtain⟨d,S',ι',w',v,bX,bN,f,ft,h1,h2,h3,h4,h5,h6,h7,h8,h9,ue,HI,Yf⟩:=h ι w env S aF hR hB hw hT hn hS;obtain⟨v2,SZ,jQ,ft2,q1,q2,q3,q4,q5,q6⟩:=hq _ _ _ _ Yf;refine⟨d,S',ι',w',v2,SZ,jQ,f,ft2,h1,h2,⟨λe=>q4 (h3.1 e),λl hl=>?_⟩,λl m hl hm=>?_,M6 h5 q2 q3,q1 _ _ _ h6,h7,h8,h9,aeX ue q3,HI,q6⟩;.obtain⟨l',e1,e2⟩:=q5 l hl;obtain⟨m,e3,e4⟩:=h3.2 l' e1;exact⟨m,e3,λj hj=>(e4 j hj).imp λi hi=>⟨e2 _ hi.1,hi.2⟩⟩
 obtain⟨l',e1,-⟩:=q5 l hl;exact h4 l' m e1 hm
theorem XL{dr:Bool}{Q:TV->List TV->List TB->de->Prop}(h1:Dc bX te)(h:Does P ty aK call yf B o nT bX tS dr Q):Does P ty aK call yf B o nT te tS dr Q:=
 λι w env S aF hR=>h ι w env S aF (M6 hR h1 (Tx.refl _))
theorem AM{k:Nat}{a:TV}{l:List TV}(h:Dw tS k=some (a,l)):tS[k]? =some (.cells (a::l))/\qZ a=true:=by
 unfold Dw at h;split at h
 .rename_i h1;split at h;.rename_i h2;cases h;exact⟨h1,h2⟩
  cases h
 cases h
def pN:TV->TV
 |.sl t l (.Cf g)=>.sl t l (.je g)
 |v=>v
theorem VZ(v:TV)(d:DV):RT ι S (pN v) d↔RT ι S v d:=by
 unfold pN;split;.cases d<;>simp only[RT,pL]
 exact Iff.rfl
theorem Kp:∀l:List TV,Dc (l.map pN) l
 |[]=>Dc.refl _
 |a::l=>vt (λ_ _ _ h=>(VZ a _).2 h) (Kp l)
theorem Hj{x:Operand}{v:TV}(h:fK te x=some v):fK (te.map pN) x=some (pN v):=by
 cases x with
 |tmp t=>simp only[fK,aB]at h⊢;subst h;rw[aP,aP,cM];cases te[t]?<;>rfl
 |const v0=>
  simp only[fK,af]at h⊢;obtain⟨d,h1,rfl⟩:=h;refine⟨d,h1,?_⟩;have h1:∀d,pN (tH d)=tH d:=λd=>by unfold tH;split<;>rfl
  unfold Y1;split;.rfl
  .rfl
  exact(h1 _).symm
 |func f=>simp only[fK,aB]at h⊢;subst h;rfl
 |global _=>simp[fK]at h
theorem Jm{t:TypeId}{v v':TV}(h:fM tt t v=v'):fM tt t (pN v)=pN v':=by
 subst h;cases v with
 |ax=>simp only[pN,fM];split<;>rfl
 |sl t l ap=>cases ap<;>rfl
 |_=>rfl
mutual
theorem Es{g e s:Nat}(hg:tS[g]? =some (.own e s)):∀(v:TV)(d:DV),RT ι S (tT g v) d->RT ι S (eD tS v) d
 |.unk,_,_=>by simp only[eD,RT]
 |.val _,d,k=>by simpa only[tT,eD]using k
 |.ax,d,k=>by simpa only[tT,eD]using k
 |.agg l,d,k=>by cases d<;>simp only[tT,eD,RT]at k⊢;exact pz hg l _ k
 |.tup l,d,k=>by cases d<;>simp only[tT,eD,RT]at k⊢;exact pz hg l _ k
 |.sl t l .no,d,k=>by simpa only[tT,eD]using k
 |.sl t l .full,d,k=>by simpa only[tT,eD]using k
 |.sl t l (.stop b),d,k=>by simpa only[tT,eD]using k
 |.sl t l (.Cf _),d,k=>by simpa only[tT,eD]using k
 |.sl t l (.je j),d,k=>by
  simp only[tT]at k;simp only[eD];split at k;.exact k
  cases d<;>simp only[RT]at k⊢;exact⟨k.1,trivial⟩
 |.ptr id off,d,k=>by
  simp only[tT]at k;simp only[eD];split
  .rename_i hc;rw[if_neg]at k;.exact k
   rintro rfl;simp only[jV,hg]at hc;cases hc
  simp only[RT]
 |.fq t l i off,d,k=>by simpa only[tT,eD]using k
 |.mp id,d,k=>by simp only[eD,RT]
 |.so g t,d,k=>by simp only[eD,RT]
 |.sp g t i off,d,k=>by simp only[eD,RT]
 |.od k0 fn te,d,k=>by simp only[eD,RT]
 |.fn f a b,d,k=>by cases d<;>simp only[tT,eD,RT]at k⊢;exact⟨k.1,pz hg a _ k.2.1,pz hg b _ k.2.2⟩
theorem pz{g e s:Nat}(hg:tS[g]? =some (.own e s)):∀(l:List TV)(m:List DV),cK ι S (kB g l) m->cK ι S (ga tS l) m
 |[],m,k=>k
 |a::l,m,k=>by simp only[kB]at k;obtain⟨d,m',rfl,h1,h2⟩:=aj k;simp only[ga];exact aT (Es hg a d h1) (pz hg l m' h2)
end
theorem E0{g e s:Nat}(hg:tS[g]? =some (.own e s)):∀l:List TV,Dc (ga tS l) (kB g (l.map pN))
 |[]=>Dc.refl _
 |a::l=>by
  simp only[bn,kB,ga];refine vt (λι S d h=>?_) (E0 hg l);unfold pN at h;split at h;.rename_i t l0 g0;have:=Es hg (.sl t l0 (.je g0)) d h;simpa only[eD]using this
  exact Es hg a d h
theorem Qk{g e s:Nat}(hg:tS[g]? =some (.own e s)):∀m:List TB,Tx (HY tS g m) (m.map (qp g))
 |[]=>Tx.refl _
 |b::m=>by
  have ih:=Qk hg m;intro k;cases b with
  |cells l=>
   simp only[HY,bn,qp];cases k with
   |zero=>
    refine .inr ⟨_,_,rfl,rfl,?_⟩;cases l with
    |nil=>exact Dc.refl _
    |cons a l=>
     simp only;split
     .rename_i hs;simp only[kB];refine vt (λι S d h=>?_) (Dc.refl _);cases a<;>first|(cases hs;done)|skip
      rename_i t x ap;cases ap<;>first|(cases hs;done)|skip
      simpa only[tT]using h
     exactλι S ds h=>pz hg (a::l) ds h
   |succ k=>simpa using ih k
  |_=>
   simp only[HY,bn,qp];cases k with
   |zero=>exact .inl rfl
   |succ k=>simpa using ih k
theorem Pg{e s:Nat}:∀{l:List TB}{j:Nat},j<Mz e s l->l[j]? =some (.own e s)
 |[],_,h=>by simp[Mz]at h
 |b::l,j,h=>by
  cases b with
  |own e' s'=>
   simp only[Mz]at h;split at h
   .rename_i hc;simp only[aC,dX]at hc;obtain⟨rfl,rfl⟩:=hc;cases j with
    |zero=>rfl
    |succ j=>simpa using Pg (l:=l) (j:=j) (by omega)
   omega
  |_=>simp only[Mz]at h;omega
theorem KX{e s:Nat}:∀{l:List TB}{i g:Nat},(pP e s i l).1<=g->g<(pP e s i l).1+(pP e s i l).2->i<=g/\l[g-i]? =some (.own e s)
 |[],i,g,h1,h2=>by simp only[pP]at h1 h2;omega
 |b::l,i,g,h1,h2=>by
  simp only[pP]at h1 h2;cases hr:Mz e s (b::l)with
  |zero=>rw[hr]at h1 h2;obtain⟨q1,q2⟩:=KX h1 h2;refine⟨by omega,?_⟩;rw[show g-i=(g-(i+1))+1 by omega];simpa using q2
  |succ n=>rw[hr]at h1 h2;simp only at h1 h2;exact⟨h1,Pg (by omega)⟩
theorem WO{c v:TV}{l:List TV}{j:Nat}(hj:j<l.length):MA (c::l) (j+1) [v]=some (c::l.set j v):=by unfold MA;rw[if_pos (by simp;omega)];simp only[List.take_succ_cons,nH,dN,mz,jk,List.drop_succ_cons,aB,List.cons.injEq,true_and];rw[jm,List.singleton_append,List.set_eq_take_append_cons_drop,if_pos hj]
theorem ad1{v:TV}{c:Prop}(h:Cn ty tt te tS o=some (.ix v c))(hc:c):bQ P ty tt te tS o=some (v,True)/\(∃t x i,o.op=.indexAddr t x i):=by
 unfold Cn at h;split at h
 .rename_i t x i ho;refine⟨?_,_,_,_,ho⟩;split at h
  .rename_i id off e2;split at h
   .split at h;.rename_i k s agg sz z n e1 e3;cases h;simp only[bQ,ho,e1,e2,e3,ay,fM];rw[if_pos ⟨hc.1,by omega⟩,nF]
    cases h
   cases h
  cases h
 all_goals (repeat' split at h)<;>cases h
theorem ZP{id off:Nat}{t:TT}{x:List t.den}(h:Cn ty tt te tS o=some (.ld0 id off t x))(hc:off=0):(∃ap,bQ P ty tt te tS o=some (.sl t x ap,True))/\lu te o=[id]/\∃t a,o.op=.load t a:=by
 unfold Cn at h;split at h
 ·(repeat' split at h)<;>cases h
 .rename_i tl a ho;split at h
  .rename_i iT sD e3;split at h
   .rename_i c l hs;obtain⟨k1,k2⟩:=AM hs;split at h
    rotate_left
    .cases h
    rename_i d u e1 e2;split at h;.cases h
    rename_i ac9;split at h
    .rename_i x' hx;cases h;subst hc;unfold afd at hx;split at hx
     .rename_i t' l' QG;split at hx;.rename_i ht;subst ht;cases hx;exact⟨⟨QG,by simp only[bQ,ho,e1,e3,k1,wH,ac9,aI,if_false,bY,ay,fM]⟩,by simp only[lu,ho,e3],_,_,ho⟩
      cases hx
     cases hx
    cases h
   cases h
  cases h
 all_goals (repeat' split at h)<;>cases h
theorem U3{id off:Nat}{u:TT}{c:TV}{l:List TV}{b:Bool}(h:Cn ty tt te tS o=some (.ld id off u c l b)){x:List u.den}{ap:Ap}(hx:(c::l)[off]? =some (.sl u x ap)):bQ P ty tt te tS o=some (.sl u x ap,True)/\lu te o=[id]/\∃t a,o.op=.load t a:=by
 unfold Cn at h;split at h
 ·(repeat' split at h)<;>cases h
 .rename_i tl a ho;split at h
  .rename_i iT sD e3;split at h
   .rename_i c l hs;obtain⟨k1,k2⟩:=AM hs;split at h
    rotate_left
    .cases h
    rename_i d u e1 e2;split at h;.cases h
    rename_i ac9;split at h;.cases h
    cases h;exact⟨by simp only[bQ,ho,e1,e3,k1,wH,ac9,aI,if_false,hx,ay,fM],by simp only[lu,ho,e3],_,_,ho⟩
   cases h
  cases h
 all_goals (repeat' split at h)<;>cases h
theorem EC{v:TV}(hp:bQ P ty tt te tS o=some (v,True))(ho:(∃t x i,o.op=.indexAddr t x i)\/∃t a,o.op=.load t a):stepT P ty tt te tS o nT=some ⟨v,te,tS,lu te o,True⟩/\nP o=false:=by
 rcases ho with ⟨t,x,i,ho⟩|⟨t,a,ho⟩;.exact⟨by simp only[stepT,ho,hp,ay],by simp only[nP,ho]⟩
 exact⟨by simp only[stepT,ho,hp,ay],by simp only[nP,ho]⟩
theorem aaY{id off:Nat}{c:TV}{l:List TV}{u:TT}{y:List u.den}{g j:Nat}(h:Cn ty tt te tS o=some (.st id off c l u y g))(ho:off=j+1)(hj:j<l.length)(dr:Bool):Does P ty aK call yf B o nT te tS dr λv bX bN ft=>v=.unk/\bX=te/\bN=tS.set id (.cells (c::l.set j (.sl u y (.je g))))/\ft=⟨some [id],true⟩:=by
 unfold Cn at h;split at h
 ·(repeat' split at h)<;>cases h
 ·(repeat' split at h)<;>cases h
 .rename_i t a x hop;split at h
  .rename_i iT sD e2;split at h
   .rename_i c' l' hs;obtain⟨k1,k2⟩:=AM hs;split at h
    rotate_left
    .cases h
    rename_i d u' y' g' e1 e3;split at h
    .rename_i hd;cases h;subst ho;have hst:stepT P ty tt te tS o nT=some ⟨.unk,te,tS.set id (.cells (c::l.set j (.sl u y (.Cf g)))),[id],True⟩:=by
      have xg:d.size=1:=by simpa using hd
      have hr:fM tt t (.sl u y (.Cf g))=.sl u y (.Cf g):=rfl;simp only[stepT,hop,e1,e2,e3,ay,hr,k1,TV.known,TV.cells,nJ,cG,List.all_nil,acI,sS,xg,oW,if_true,WO hj,ay]
     refine CZ (lM hst trivial dr) ?_;rintro v bX bN ft ⟨rfl,rfl,rfl,rfl⟩;refine⟨.unk,_,_,⟨some [id],true⟩,SS.refl _,Dc.refl _,λk=>?_,λ_=>rfl,λl h=>⟨l,h,λ_ h=>h⟩,rfl,rfl,rfl,rfl⟩;rw[aH,aH];split
     .split;.refine .inr ⟨_,_,rfl,rfl,vt (SS.refl _) (MT (λι S d h=>?_) j l)⟩;cases d<;>simp only[RT,pL]at h⊢;exact h
      exact .inl rfl
     exact .inl rfl
    cases h
   cases h
  cases h
 all_goals (repeat' split at h)<;>cases h
theorem aaZ{e s g:Nat}{k:TT}{l:List k.den}{c:Prop}(h:Cn ty tt te tS o=some (.ap e s g k l c))(hc:c)(h1:(pP e s 0 tS).1<=g)(h2:g<(pP e s 0 tS).1+(pP e s 0 tS).2)(dr:Bool):Does P ty aK call yf B o nT te tS dr λv bX bN ft=>v=.sl k l (.Cf g)/\bX=ga tS te/\bN=HY tS g tS/\ft=⟨some (nT::List.range' (pP e s 0 tS).1 (pP e s 0 tS).2),true⟩:=by
 obtain⟨-,hg⟩:=KX h1 h2;rw[Nat.sub_zero]at hg;unfold Cn at h;split at h;iterate 3 (· (repeat' split at h)<;>cases h)
 .rename_i args argTypes hop;split at h
  .rename_i x y t u ha ht;split at h
   rotate_left
   .cases h
   rename_i k1 l0 g0 e2;split at h
   .rename_i QA;split at h
    .rename_i e0 s0 lR agg sz z0 k0 m ap1 e1 e3;split at h
     .rename_i k' sz' z e4;split at h
      .rename_i hk;subst hk;split at h
       .rename_i hb;cases h;simp only[af]at e3;obtain⟨v1,f1,f2⟩:=e3;have hst:stepT P ty tt (te.map pN) tS o nT=some ⟨.sl k (l0++m) (.je g),kB g (te.map pN),tS.map (qp g),[g,nT],l0.length+m.length<=1000000000⟩:=by
         have hx:=Hj e2;have hy:=Hj f1;have hr:fM tt t (.sl k l0 (.je g))=.sl k l0 (.je g):=rfl;have Mp:=Jm (tt:=tt) f2;have hu:∃ap2,pN (TV.sl k m ap1)=.sl k m ap2:=by cases ap1<;>exact⟨_,rfl⟩
         obtain⟨ap2,hu⟩:=hu;rw[hu]at Mp;have jR:fK (te.map pN) x=some (.sl k l0 (.je g)):=hx;obtain⟨rfl,hh⟩:=QA;simp only[stepT,hop,ha,ht,hh,ne_eq,not_false_eq_true,and_self,if_true,e1,jR,hy,ay,hr,Mp,e4,dite_true,hb,hg,oW,fT]
        refine XL (Kp te) (CZ (lM hst hc dr) ?_);rintro v bX bN ft ⟨rfl,rfl,rfl,rfl⟩;refine⟨_,_,_,_,λι S d h=>?_,E0 hg te,Qk hg tS,λ_=>rfl,λl' iN=>⟨_,rfl,λj hj=>?_⟩,rfl,rfl,rfl,rfl⟩;.cases d<;>simp only[RT,pL]at h⊢;exact h
        cases iN;simp only[bw,eB,or_false]at hj;rcases hj with rfl|rfl;.exact jZ _ (by rw[List.mem_range'];exact⟨j-(pP e s 0 tS).1,by omega,by omega⟩)
        exact fH ..
       cases h
      cases h
     cases h
    cases h
   cases h
  cases h
 cases h
end Go.Tv
namespace Go.Tv
open Go Go.Di Go.Proofs
def aS(b:Bool)(A B:Prop):Prop:=
 match b with
 |true=>A
 |false=>B
def Ar:List Prop->Prop->Prop
 |[],R=>R
 |p::l,R=>p/\Ar l R
def dg:List Prop->Prop
 |[]=>True
 |p::l=>p/\dg l
def impl:List Prop->Prop->Prop
 |[],R=>R
 |p::l,R=>p->impl l R
inductive tC:Type 1
 |ex (α:Type) (k:α->tC)
 |res (v:TV) (cs:List TV) (facts:List Prop)
def tC.all:tC->(TV->List TV->List Prop->Prop)->Prop
 |.ex _ k,K=>∀x,(k x).all K
 |.res v cs fs,K=>K v cs fs
def tC.some:tC->(TV->List TV->List Prop->Prop)->Prop
 |.ex _ k,K=>∃x,(k x).some K
 |.res v cs fs,K=>K v cs fs
def tC.holds (s:tC)(v:TV)(cs:List TV):Prop:=s.some λv' lC fs=>v=v'/\cs=lC/\dg fs
def tC.ow (s:tC)(v:TV):Prop:=s.some λv' _ fs=>v=v'/\dg fs
def tC.Az (s:tC)(cs:List TV):Prop:=s.some λ_ lC fs=>cs=lC/\dg fs
abbrev Sp:=Option (List Prop×tC)
structure Bd where
 sl:List (Nat×TV)
 pl:List (Nat×List TV):=[]
 own:List (Nat×Nat):=[]
 cO:List Prop:=[]
 mp:List (Nat×(Σkt:TT,List kt.den)):=[]
 m:Nat:=0
inductive LA:Type 1
 |ex (α:Type) (k:α->LA)
 |st (b:Bd)
 |un (n:Nat)
 |dep (f:List TV->List TB->LA)
 |pe (n:Nat) (a:LA)
def LA.abJ:LA->Nat
 |.pe n _=>n
 |_=>0
def LA.inner:LA->LA
 |.pe _ a=>a
 |a=>a
def LA.at (la:LA)(te:List TV)(tS:List TB):LA:=
 match la with
 |.dep f=>f te tS
 |la=>la
def aiq(te:List TV)(i:Nat)(k:List Int->LA):LA:=
 match te.getD i .unk with
 |.sl (.int .i64) l _=>k l
 |_=>.un 0
def LA.all:LA->(Bd->Prop)->Prop
 |.ex _ k,K=>∀x,(k x).all K
 |.st b,K=>K b
 |_,_=>True
def LA.some:LA->(Bd->Prop)->Prop
 |.ex _ k,K=>∃x,(k x).some K
 |.st b,K=>K b
 |_,_=>False
structure eZ where
 I:FuncId->List TV->Sp
 C:FuncId->List TV->List TV->Sp
 N:FuncId->List TV->Sp
 X:FuncId->Option (Func×List (Nat×LA)):=λ_=>none
 O:FuncId->List TV->Option (List Prop×TypeId×tC):=λ_ _=>none
 M:FuncId->List TV->List (List TV)->Sp:=λ_ _ _=>none
 me:Option FuncId:=none
 yp:List Tmp×Code×Code:=([],.skip,.skip)
 Y:List (Nat×LA):=[]
structure qy (T:eZ) (aK:bR) (call:bt):Prop where
 I:∀g a p s,T.I g a=some (p,s)->dg p->uG aK g a λv=>s.ow v
 C:∀g a c p s,T.C g a c=some (p,s)->dg p->BL call g a c λv cs=>s.holds v cs
 N:∀g a p s,T.N g a=some (p,s)->dg p->Du aK call g a λcs=>s.Az cs
 O:∀g a p e s,T.O g a=some (p,e,s)->dg p->OW call g a e λv=>s.ow v
 M:∀g a t p s,T.M g a t=some (p,s)->dg p->BI call g a t λv t=>s.holds v (t.map .agg)
mutual
def gz(v:TV)(K:TV->Prop):Prop:=
 match v with
 |.unk=>K .unk
 |.val (.int k n)=>K (.val (.int k n))
 |.val (.bool b)=>K (.val (.bool b))
 |.val v=>K (.val v)
 |.ax=>K .ax
 |.agg l=>dc l λl=>K (.agg l)
 |.tup l=>dc l λl=>K (.tup l)
 |.sl t l ap=>K (.sl t l ap)
 |.ptr id off=>K (.ptr id off)
 |.fq t l i off=>K (.fq t l i off)
 |.mp id=>K (.mp id)
 |.so g t=>K (.so g t)
 |.sp g t i off=>K (.sp g t i off)
 |.od k fn te=>dc te λte=>K (.od k fn te)
 |.fn f a b=>dc a λa=>dc b λb=>K (.fn f a b)
def dc(l:List TV)(K:List TV->Prop):Prop:=
 match l with
 |[]=>K []
 |a::l=>gz a λa=>match qZ a with
  |true=>K (a::l)
  |false=>dc l λl=>K (a::l)
end
def bW(l:List TB)(K:List TB->Prop):Prop:=
 match l with
 |[]=>K []
 |.cells c::l=>dc c λc=>bW l λl=>K (.cells c::l)
 |.none::l=>bW l λl=>K (.none::l)
 |.loop::l=>bW l λl=>K (.loop::l)
 |.own e s::l=>bW l λl=>K (.own e s::l)
 |.map kt c::l=>bW l λl=>K (.map kt c::l)
 |.rows t e c z::l=>bW l λl=>K (.rows t e c z::l)
def FA:List TV->Nat->TV->(List TV->Prop)->Prop
 |[],_,_,K=>K []
 |_::l,0,v,K=>K (v::l)
 |a::l,n+1,v,K=>FA l n v λl=>K (a::l)
def gq(te:List TV)(dst:Option Tmp)(v:TV)(K:List TV->Prop):Prop:=
 match dst with
 |some d=>FA te d v K
 |none=>K te
mutual
def Yg:TV->TV->Option (List Prop)
 |.unk,.unk=>some []
 |.val (.int k a),.val (.int k' b)=>if k=k' then some [a=b]else none
 |.val (.bool a),.val (.bool b)=>some [a=b]
 |.val a,.val b=>some [a=b]
 |.ax,.ax=>some []
 |.agg l,.agg m=>QF l m
 |.tup l,.tup m=>QF l m
 |.sl t l .no,.sl t' l' .no=>if h:t=t' then some [h▸l=l']else none
 |.sl t l .full,.sl t' l' .full=>if h:t=t' then some [h▸l=l']else none
 |.sl t l (.je g),.sl t' l' (.je g')=>if h:t=t' then if g=g' then some [h▸l=l']else none else none
 |.sl t l (.stop b),.sl t' l' (.stop b')=>if h:t=t' then if b=b' then some [h▸l=l']else none else none
 |.ptr i o,.ptr i' o'=>if i=i'/\o=o' then some []else none
 |.mp i,.mp i'=>if i=i' then some []else none
 |.od k fn te,.od k' vr bX=>if k=k'/\fn=vr then QF te bX else none
 |.so i t,.so i' t'=>if i=i'/\t=t' then some []else none
 |.fq t l i o,.fq t' l' i' o'=>if h:t=t' then some [h▸l=l',i=i',o=o']else none
 |.fn f a b,.fn f' a' b'=>if f=f' then match QF a a',QF b b' with
  |some x,some y=>some (x++y)
  |_,_=>none else none
 |_,_=>none
def QF:List TV->List TV->Option (List Prop)
 |[],[]=>some []
 |a::l,b::m=>match qZ a with
  |true=>(Yg a b).map (·++[l=m])
  |false=>match Yg a b,QF l m with
   |some x,some y=>some (x++y)
   |_,_=>none
 |_,_=>none
end
mutual
def leT:TV->TV->Option (List Prop)
 |_,.unk=>some []
 |.sl t l _,.sl t' l' .no=>if h:t=t' then some [h▸l=l']else none
 |.sl t l _,.sl t' l' (.stop _)=>if h:t=t' then some [h▸l=l']else none
 |.sl t l .full,.sl t' l' (.je _)=>match l with
  |[]=>if t=t' then some [[]=l']else none
  |_::_=>none
 |.ax,.sl _ l _=>some [[]=l]
 |.agg l,.agg m=>HO l m
 |v,u=>Yg v u
def HO:List TV->List TV->Option (List Prop)
 |[],[]=>some []
 |a::l,b::m=>match qZ b with
  |true=>(leT a b).map (·++[kF m l])
  |false=>match leT a b,HO l m with
   |some x,some y=>some (x++y)
   |_,_=>none
 |_,_=>none
end
def qV:List TB->List TB->Option (List Prop)
 |_,[]=>some []
 |_::l,.none::m=>qV l m
 |.loop::l,.loop::m=>qV l m
 |.cells a::l,.cells b::m=>match HO a b,qV l m with
  |some x,some y=>some (x++y)
  |_,_=>none
 |.own e s::l,.own e' s'::m=>if e=e'/\s=s' then qV l m else none
 |.map kt a::l,.map kt' b::m=>if h:kt=kt' then match qV l m with
  |some y=>some ((h▸a=b)::y)
  |none=>none else none
 |.rows t e a z::l,.rows t' e' b z'::m=>if h:t=t' then if e=e'/\z=z' then match qV l m with
  |some y=>some ((h▸a=b)::y)
  |none=>none else none else none
 |[],.own _ _::m=>qV [] m
 |_,_=>none
def ask(o:Option (List Prop))(K:Prop):Prop:=
 match o with
 |some l=>Ar l K
 |none=>False
section
variable (P:Program) (ty:fR) (tt:TypeId->Option TT) (T:eZ)
def dw(n:Int):Prop:=-9223372036854775808<=n/\n<=9223372036854775807
def HZ(a b:Int):Int:=
 match a with
 |.ofNat n=>IntKind.i64.wrap ((BitVec.ofInt 64 (.ofNat n)&&&BitVec.ofInt 64 b).toNat:Int)
 |.negSucc n=>IntKind.i64.wrap ((BitVec.ofInt 64 (.negSucc n)&&&BitVec.ofInt 64 b).toNat:Int)
def DL(te:List TV)(o:Oper):Option (TV×Prop):=
 match o.op with
 |.binOp .add _ x y _=>match fK te x,fK te y with
  |some (.val (.int .i64 a)),some (.val (.int .i64 b))=>some (.val (.int .i64 (a+b)),dw (a+b))
  |_,_=>none
 |.binOp .sub _ x y _=>match fK te x,fK te y with
  |some (.val (.int .i64 a)),some (.val (.int .i64 b))=>some (.val (.int .i64 (a-b)),dw (a-b))
  |_,_=>none
 |.binOp .mul _ x y _=>match fK te x,fK te y with
  |some (.val (.int .i64 a)),some (.val (.int .i64 b))=>some (.val (.int .i64 (a*b)),dw (a*b))
  |_,_=>none
 |.unOp .neg _ x=>match fK te x with
  |some (.val (.int .i64 a))=>some (.val (.int .i64 (-a)),dw (-a))
  |_=>none
 |.binOp .and _ x y _=>match fK te x,fK te y with
  |some (.val (.int .i64 a)),some (.val (.int .i64 b))=>some (.val (.int .i64 (HZ a b)),True)
  |_,_=>none
 |_=>none
abbrev adj(xs ys:Array Value):List Field->Option Bool:=Ke P (eqV P 1) xs ys
def TW(te:List TV)(o:Oper):Option Bool:=
 match o.op with
 |.binOp .neq t x y _=>match(fK te x).bind iE,(fK te y).bind iE with
  |some (.agg xs),some (.agg ys)=>match P.underlying t,P.stoodInHeld t,P.eqGuardType P.depth t with
   |some (.struct fs),false,false=>(adj P xs ys fs.toList).map λr=>!r
   |_,_,_=>none
  |_,_=>none
 |.binOp .eql t x y _=>match(fK te x).bind iE,(fK te y).bind iE with
  |some (.agg xs),some (.agg ys)=>match P.underlying t,P.stoodInHeld t,P.eqGuardType P.depth t with
   |some (.struct fs),false,false=>adj P xs ys fs.toList
   |_,_,_=>none
  |_,_=>none
 |_=>none
def AE(o:Oper):Bool:=
 match o.op with
 |.slice .. |.indexAddr .. =>true
 |.call {callee:=.builtin .append,.. }=>true
 |_=>false
def adr(te:List TV)(o:Oper):Option (Tmp×Int×Nat):=
 match o.op with
 |.indexAddr t _ (.tmp i)=>match ty t,te[i]? with
  |some ⟨.array k _ _,_,_⟩,some (.val (.int .i64 n))=>some (i,n,k)
  |_,_=>none
 |.index t _ (.tmp i)=>match ty t,te[i]? with
  |some ⟨.array k _ _,_,_⟩,some (.val (.int .i64 n))=>some (i,n,k)
  |_,_=>none
 |_=>none
def MW(n:Int)(K:Nat->Prop):Nat->Nat->Prop
 |0,_=>False
 |c+1,j=>aS (decide (n=(j:Int))) (K j) (MW n K c (j+1))
def acK(te:List TV)(o:Oper):Option (Bool×Prop):=
 match o.op with
 |.binOp .eql t x y _=>match ty t,fK te x,fK te y with
  |some ⟨.slice _ _ _ _,_,_⟩,some (.sl _ l _),some .ax=>some (false,l≠[])
  |some ⟨.slice _ _ _ _,_,_⟩,some .ax,some .ax=>some (true,True)
  |_,_,_=>none
 |_=>none
def agr(o:Oper):Bool:=
 match o.op with
 |.binOp .neq .. |.binOp .eql .. =>true
 |_=>false
def OQ(te:List TV)(o:Oper):Option (FuncId×List TV):=
 match o.op with
 |.call {callee:=.value f,args,argTypes}=>match fK te f,lS te args.toList with
  |some (.fn g fs cs),some xs=>if(fs++xs++cs).all eM then some (g,bL (gf tt fs argTypes) (fs++xs++cs))else none
  |_,_=>none
 |_=>none
def M8(te:List TV)(tS:List TB)(o:Oper):Option (FuncId×Nat×List TV×List TV):=
 match o.op with
 |.call {callee:=.value f,args,argTypes}=>match fK te f,lS te args.toList with
  |some (.fn g fs cs),some xs=>match Ui (fs++xs++cs)with
   |some kp=>match yI kp (gf tt fs argTypes) (fs++xs++cs),tS[kp]? with
    |some targs,some (.cells ts)=>if(fs++xs++cs).any isRef&&(eW ts).isEmpty then some (g,kp,targs,ts)else none
    |_,_=>none
   |none=>none
  |_,_=>none
 |_=>none
def M9(te:List TV)(tS:List TB)(o:Oper):Option (FuncId×Nat×List TV×List TV):=
 match o.op with
 |.call {callee:=.value f,args,argTypes}=>match fK te f,lS te args.toList with
  |some (.fn g fs cs),some xs=>match fs++xs++cs with
   |.ptr kp off::rest=>match tS[kp]? with
    |some (.cells ts)=>if rest.all eM&&ts.all kL then some (g,kp,.ptr 0 off::bL (gf tt fs argTypes).tail rest,ts)else none
    |_=>none
   |_=>none
  |_,_=>none
 |_=>none
def aen(md:Nat)(te:List TV)(tS:List TB)(o:Oper):Option (FuncId×Nat×List TV×List TV):=
 match md with
 |0=>M8 tt te tS o
 |2=>M9 tt te tS o
 |_=>none
def Dq(md kp:Nat):de:=
 match md with
 |2=>⟨some [kp],true⟩
 |_=>⟨none,true⟩
def Ka(md:Nat)(v:TV)(cs:List TV)(K:Prop):Prop:=
 match md with
 |2=>match BF v&&cs.all kL with
  |true=>K
  |false=>False
 |_=>K
def afh(te:List TV)(o:Oper):Option (FuncId×List TV):=
 match o.op with
 |.call {callee:=.value f,args,argTypes:=_}=>match fK te f,lS te args.toList with
  |some (.fn g fs cs),some xs=>if(fs++xs++cs).any isRef||ty.h o==1 then some (g,fs++xs++cs)else none
  |_,_=>none
 |_=>none
def acP(md:Nat)(te:List TV)(o:Oper):Option (List TV×Func×List (Nat×LA)):=
 match md with
 |0=>match afh ty te o with
  |some (g,A)=>match T.X g with
   |some (fn,j)=>some (A,fn,j)
   |none=>none
  |none=>none
 |_=>none
structure Inl where
 c:Func->List (Nat×LA)->List TV->List TB->(TV->List TB->Prop)->Prop
 y:Nat->FuncId->List TV->List TV->List TB->(List TB->Prop)->Prop
 me:Option FuncId:=none
inductive Gd
 |no (b:Bool)
 |ask (d:Tmp) (b want:Bool)
 |unk
def gdT(ops:Array Oper)(te:List TV)(o:Oper):Gd:=
 match o.guard with
 |none=>.no true
 |some (j,want)=>match(ops[j]?).bind (·.dst)with
  |some d=>match te[d]? with
   |some (.val (.bool b))=>.ask d b want
   |some .unk=>.unk
   |some (.val _)=>.no false
   |_=>.unk
  |none=>.no false
abbrev KO:=List TV->List TB->List de->Prop
def gy:de:=⟨some [],false⟩
def ot(md n0 k:Nat)(tS:List TB):Nat:=
 match md with
 |2=>n0+k
 |_=>tS.length
variable (inl:Inl)
def Un(e nT:Nat)(v:TV)(K:TV->TB->Prop):Prop:=
 match v with
 |.sl t CG .no=>K (.sl t CG (.je nT)) (.own e t.size)
 |_=>False
def OC:List TV->Option (List (List TV))
 |[]=>some []
 |.agg l::r=>(OC r).map (l::·)
 |_=>none
theorem Gs:∀t:List (List TV),OC (t.map .agg)=some t
 |[]=>rfl
 |l::t=>by rw[bn,OC,Gs t];rfl
def adq(L:List Nat)(cs:List TV)(K:List (List TV)->Prop):Prop:=
 match OC cs with
 |some t=>match HN L t with
  |some tB=>K tB
  |none=>False
 |none=>False
def Gl(md:Nat)(L:List Nat):de:=
 match md with
 |2=>⟨some L,true⟩
 |_=>⟨none,true⟩
def Ik(md:Nat)(o:Oper)(te:List TV)(tS:List TB)(fs:List de)(K:KO):Prop:=
 match Nc tt md te tS o with
 |some (g,L,targs,tP)=>match md==1,T.M g targs tP with
  |false,some (p,s)=>Ar p (s.all λv cs facts=>impl facts (adq L cs λtB=>gz v λv=>gq te o.dst v λte=>bW (yl L tB tS) λtS=>K te tS (fs++[Gl md L])))
  |_,_=>False
 |none=>False
def Ig(md:Nat)(o:Oper)(te:List TV)(tS:List TB)(fs:List de)(K:KO):Prop:=
 match aen tt md te tS o with
 |some (g,kp,targs,ts)=>match T.C g targs ts with
  |some (p,s)=>Ar p (s.all λv cs facts=>impl facts (Ka md v cs (gz v λv=>gq te o.dst v λte=>dc cs λcs=>bW (tS.set kp (.cells cs)) λtS=>K te tS (fs++[Dq md kp]))))
  |none=>Ik tt T md o te tS fs K
 |none=>Ik tt T md o te tS fs K
def acp(md:Nat)(te:List TV)(tS:List TB)(o:Oper):Option (Nat×FuncId×List TV×List TV):=
 match md==1,o.op with
 |false,.call {callee:=.value f,args,argTypes:=_}=>match fK te f with
  |some (.od k fn Ad)=>match lS te args.toList,tS[k]? with
   |some xs,some .loop=>some (k,fn,Ad,xs)
   |_,_=>none
  |_=>none
 |_,_=>none
def acr(o:Oper)(te:List TV)(tS:List TB)(fs:List de)(K:KO)(k:Nat)(jQ:List TB):Prop:=
 aS (okB (te.map (uB tS k)) (pJ k 0 tS (jQ.set k .loop))&&(dF 0 tS).all (lX (pJ k 0 tS (jQ.set k .loop)))) (dc (te.map (uB tS k)) λte=>gq te o.dst (.val (.bool true)) λte=>bW (pJ k 0 tS (jQ.set k .loop)) λtS=>K te tS (fs++[⟨none,true⟩])) False
def UK(md nT:Nat)(o:Oper)(te:List TV)(tS:List TB)(fs:List de)(K:KO):Prop:=
 match acp md te tS o with
 |some (k,fn,Ad,xs)=>inl.y k fn Ad xs tS (acr o te tS fs K k)
 |none=>match acP ty T md te o with
 |some (A,fn,j)=>inl.c fn j A tS λv bN=>gz v λv=>dc (ga tS te) λte=>gq te o.dst v λte=>K te bN fs
 |none=>match ty.h o==1 with
 |true=>match md,OQ tt te o with
  |0,none=>Ig tt T 0 o te tS fs K
  |2,some (g,targs)=>match T.O g targs with
   |some (p,e,s)=>Ar p (s.all λv _ facts=>impl facts (Un e nT v λv b=>gz v λv=>gq te o.dst v λte=>bW (oG tS nT b) λtS=>K te tS (fs++[⟨some [nT],true⟩])))
   |none=>False
  |_,_=>False
 |false=>match OQ tt te o with
 |some (g,targs)=>match md==0,T.N g targs with
  |true,some (p,s)=>Ar p (s.all λ_ cs facts=>impl facts (gq te o.dst (.ptr tS.length 0) λte=>K te (tS++[.cells cs]) fs))
  |_,_=>match T.I g targs with
   |some (p,s)=>Ar p (s.all λv _ facts=>impl facts (gz v λv=>gq te o.dst v λte=>K te tS (fs++[gy])))
   |none=>False
 |none=>Ig tt T md o te tS fs K
def mapM(md:Nat)(te:List TV)(tS:List TB)(o:Oper):Option (TV×List TB×Prop):=
 match md with
 |0=>acL P tt te tS o tS.length
 |_=>none
def abK(md:Nat)(te:List TV)(tS:List TB)(o:Oper)(nT:Nat):Option (TV×List TV×List TB×de×Prop):=
 match JX ty tt te tS o with
 |some (v,g,c)=>some (v,te,tS,⟨some [g],false⟩,c)
 |none=>if md=1 then none else match Um ty tt te tS o with
  |some (g,bN)=>some (.unk,te,bN,⟨some [g],true⟩,True)
  |none=>if md=0 then(Ul ty tt te tS o nT).map λr=>(r.1,r.2.1,r.2.2.1,⟨none,true⟩,r.2.2.2)else none
def YZ(md n0 k:Nat)(o:Oper)(te:List TV)(tS:List TB)(fs:List de)(K:KO):Prop:=
 match Ak tS (ot md n0 k tS)with
 |false=>False
 |true=>match aeB o with
  |true=>UK ty tt T inl md (ot md n0 k tS) o te tS fs K
  |false=>match abK ty tt md te tS o (ot md n0 k tS)with
   |some (v,bX,bN,f,c)=>c/\gz v λv=>dc bX λte=>gq te o.dst v λte=>bW bN λtS=>K te tS (fs++[f])
   |none=>match mapM P tt md te tS o with
   |some (v,bN,c)=>c/\gz v λv=>gq te o.dst v λte=>bW bN λtS=>K te tS (fs++[⟨none,true⟩])
   |none=>match DL te o with
   |some (v,c)=>c/\gq te o.dst v λte=>K te tS (fs++[gy])
   |none=>match agr o,TW P te o,acK ty te o with
    |true,some b,_=>gq te o.dst (.val (.bool b)) λte=>K te tS (fs++[gy])
    |true,none,some (b,c)=>c/\gq te o.dst (.val (.bool b)) λte=>K te tS (fs++[gy])
    |_,_,_=>match md with
     |1=>match bQ P ty tt te tS o with
      |some q=>match AE o with
       |true=>q.2/\gz q.1 λv=>gq te o.dst v λte=>K te tS (fs++[gy])
       |false=>gz q.1 λv=>gq te o.dst v λte=>K te tS (fs++[gy])
      |none=>False
     |_=>match stepT P ty tt te tS o (ot md n0 k tS)with
      |some q=>match AE o with
       |true=>q.c/\gz q.v λv=>dc q.te λte=>gq te o.dst v λte=>bW q.tS λtS=>K te tS (fs++[⟨some q.FI,nP o⟩])
       |false=>gz q.v λv=>gq q.te o.dst v λte=>bW q.tS λtS=>K te tS (fs++[⟨some q.FI,nP o⟩])
      |none=>False
def YT(md nT:Nat)(o:Oper)(te:List TV)(tS:List TB)(fs:List de)(K:KO):ads->Prop
 |.ix v c=>c/\gq te o.dst v λte=>K te tS (fs++[gy])
 |.ld0 id off t x=>aS (off==0) (gq te o.dst (.sl t x .no) λte=>K te tS (fs++[⟨some [id],false⟩])) False
 |.ld id off u c l b=>match b with
  |true=>∃(x:List u.den)(g:Nat),(c::l)[off]? =some (.sl u x (.je g))/\gq te o.dst (.sl u x (.Cf g)) λte=>K te tS (fs++[⟨some [id],false⟩])
  |false=>∃x:List u.den,(c::l)[off]? =some (.sl u x .no)/\gq te o.dst (.sl u x .no) λte=>K te tS (fs++[⟨some [id],false⟩])
 |.st id off c l u y g=>match md==1 with
  |true=>False
  |false=>∃j,off=j+1/\j<l.length/\gq te o.dst .unk λte=>bW (tS.set id (.cells (c::YY l j (.sl u y (.je g))))) λtS=>K te tS (fs++[⟨some [id],true⟩])
 |.ap e s g k l c=>match md==1,pP e s 0 tS with
  |false,(lo,n)=>(lo<=g/\g<lo+n)/\c/\dc (ga tS te) λte=>gq te o.dst (.sl k l (.Cf g)) λte=>bW (HY tS g tS) λtS=>K te tS (fs++[⟨some (nT::List.range' lo n),true⟩])
  |_,_=>False
def QN(md n0 k:Nat)(o:Oper)(te:List TV)(tS:List TB)(fs:List de)(K:KO):Prop:=
 match Cn ty tt te tS o with
 |some q=>match Ak tS (ot md n0 k tS)with
  |true=>YT md (ot md n0 k tS) o te tS fs K q
  |false=>False
 |none=>match adr ty te o with
 |some (t,n,c)=>MW n (λj=>FA te t (.val (.int .i64 (j:Int))) λte=>YZ P ty tt T inl md n0 k o te tS fs K) c 0
 |none=>YZ P ty tt T inl md n0 k o te tS fs K
def opK(md n0 k:Nat)(o:Oper)(te:List TV)(tS:List TB)(fs:List de)(K:KO):Prop:=
 match md,ty.h o with
 |0,2=>match MC ty te tS o with
  |some (te,tS)=>dc te λte=>bW tS λtS=>QN P ty tt T inl md n0 k o te tS fs K
  |none=>False
 |_,_=>QN P ty tt T inl md n0 k o te tS fs K
def OE(o:Oper)(te:List TV)(tS:List TB)(fs:List de)(K:KO):Prop:=gq te o.dst QH λte=>K te tS (fs++[gy])
def qw(md n0:Nat)(ops:Array Oper):List Oper->Nat->List TV->List TB->List de->KO->Prop
 |[],_,te,tS,fs,K=>K te tS fs
 |o::r,k,te,tS,fs,K=>match gdT ops te o with
  |.no true=>opK P ty tt T inl md n0 k o te tS fs λte tS fs=>qw md n0 ops r (k+1) te tS fs K
  |.no false=>OE o te tS fs λte tS fs=>qw md n0 ops r (k+1) te tS fs K
  |.ask d b want=>match want with
   |true=>aS b (FA te d (.val (.bool true)) λte=>opK P ty tt T inl md n0 k o te tS fs λte tS fs=>qw md n0 ops r (k+1) te tS fs K) (FA te d (.val (.bool false)) λte=>OE o te tS fs λte tS fs=>qw md n0 ops r (k+1) te tS fs K)
   |false=>aS b (FA te d (.val (.bool true)) λte=>OE o te tS fs λte tS fs=>qw md n0 ops r (k+1) te tS fs K) (FA te d (.val (.bool false)) λte=>opK P ty tt T inl md n0 k o te tS fs λte tS fs=>qw md n0 ops r (k+1) te tS fs K)
  |.unk=>False
def aie(d:Option Tmp):Nat:=
 match d with
 |some d=>2^d
 |none=>0
def aeq(o:Oper):Nat:=o.op.operands.foldl (λa x=>match x with|.tmp t=>a|||2^t|_=>a) 0
def defs:Code->Nat
 |.region _ ops _=>ops.foldl (λa o=>a|||aie o.dst) 0
 |.seq a b|.cond _ a b=>defs a|||defs b
 |.block _ c|.loop c|.scope c=>defs c
 |_=>0
def nQ:Code->Nat
 |.region _ ops _=>ops.foldl (λa o=>a|||aeq o) 0
 |.seq a b=>nQ a|||nQ b
 |.cond x a b=>(match x with|.tmp t=>2^t|_=>0)|||nQ a|||nQ b
 |.block _ c|.loop c|.scope c=>nQ c
 |.rangeFunc x _ a b=>(match x with|.tmp t=>2^t|_=>0)|||nQ a|||nQ b
 |_=>0
def cnt:Code->Nat
 |.seq a b=>1+cnt a+cnt b
 |.cond _ a b=>cnt a+cnt b
 |.block _ c|.scope c=>cnt c
 |.loop c=>1+cnt c
 |_=>0
def oC(sl:List (Nat×TV))(keep:Nat):Nat->List TV->List TV
 |_,[]=>[]
 |i,v::l=>(match sl.find? λp=>p.1==i with
  |some p=>p.2
  |none=>match keep.testBit i with
   |true=>v
   |false=>.unk)::oC sl keep (i+1) l
def wL(sl:List (Nat×TV)):Nat->List TV->Option (List Prop)
 |_,[]=>some []
 |i,v::l=>match sl.find? λp=>p.1==i with
  |some p=>match leT v p.2,wL sl (i+1) l with
   |some x,some y=>some (x++y)
   |_,_=>none
  |none=>wL sl (i+1) l
abbrev MpL:=List (Nat×(Σkt:TT,List kt.den))
def uw(pl:List (Nat×List TV))(mp:MpL):Nat->List TB->List TB
 |_,[]=>[]
 |i,.cells c::l=>(match pl.find? λp=>p.1==i with
  |some p=>.cells p.2
  |none=>.cells c)::uw pl mp (i+1) l
 |i,.map kt c::l=>(match mp.find? λp=>p.1==i with
  |some (_,⟨kt',c'⟩)=>.map kt' c'
  |none=>.map kt c)::uw pl mp (i+1) l
 |i,.rows t e c z::l=>(match mp.find? λp=>p.1==i with
  |some (_,⟨t',c'⟩)=>.rows t' e c' z
  |none=>.rows t e c z)::uw pl mp (i+1) l
 |i,.own e s::l=>.own e s::uw pl mp (i+1) l
 |i,.none::l=>.none::uw pl mp (i+1) l
 |i,.loop::l=>.loop::uw pl mp (i+1) l
def jD(pl:List (Nat×List TV))(mp:MpL):Nat->List TB->Option (List Prop)
 |_,[]=>some []
 |i,.cells c::l=>match pl.find? λp=>p.1==i with
  |some p=>match HO c p.2,jD pl mp (i+1) l with
   |some x,some y=>some (x++y)
   |_,_=>none
  |none=>jD pl mp (i+1) l
 |i,.map kt c::l=>match mp.find? λp=>p.1==i with
  |some (_,⟨kt',c'⟩)=>if h:kt=kt' then match jD pl mp (i+1) l with
   |some y=>some ((h▸c=c')::y)
   |none=>none else none
  |none=>jD pl mp (i+1) l
 |i,.rows t _ c _::l=>match mp.find? λp=>p.1==i with
  |some (_,⟨t',c'⟩)=>if h:t=t' then match jD pl mp (i+1) l with
   |some y=>some ((h▸c=c')::y)
   |none=>none else none
  |none=>jD pl mp (i+1) l
 |i,.own _ _::l=>jD pl mp (i+1) l
 |i,.none::l=>jD pl mp (i+1) l
 |i,.loop::l=>jD pl mp (i+1) l
def yF(b:Bd)(tS:List TB):List TB:=uw b.pl b.mp 0 tS++b.own.map λp=>.own p.1 p.2
abbrev KC:=DX->List TV->List TB->Prop
def acf(J:List (Nat×LA))(i:Nat)(te:List TV)(tS:List TB):Option LA:=
 match J.find? λp=>p.1==i with
 |some p=>some (p.2.at te tS)
 |none=>none
def VB(B:List Nat)(b:Bd)(keep:Nat)(te:List TV)(tS:List TB)(K:Prop):Prop:=
 aS (okB (oC b.sl keep 0 te) (yF b tS)&&B.all (lX (yF b tS))) (ask (wL b.sl 0 te) (ask (jD b.pl b.mp 0 tS) (Ar b.cO K))) False
def UL(B:List Nat)(mI:List TV)(iM:List TB)(b:Bd)(te:List TV)(tS:List TB)(K:Prop):Prop:=
 aS (okB mI iM&&B.all (lX iM)) (ask (HO te mI) (ask (qV tS iM) (Ar b.cO K))) False
def unK(f:List TV->List TB->(List TV->List TB->Prop)->Prop)(K:List TV->List TB->Prop):Nat->List TV->List TB->Prop
 |0,te,tS=>K te tS
 |n+1,te,tS=>f te tS (unK f K n)
def M7(P:Program):Code->Option (Array Oper)
 |.region _ ops true=>if wJ P ops then none else some ops
 |_=>none
def Vo(keep:Nat)(ops:Array Oper):Bool:=ops.toList.all λo=>match o.dst with
 |some d=>!keep.testBit d
 |none=>true
def Ug(x:Operand)(te:List TV)(v:Bool)(K:List TV->Prop):Prop:=
 match x with
 |.tmp t=>FA te t (.val (.bool v)) K
 |_=>K te
def Vl(tS:List TB)(k:Nat):Bool:=
 match tS[k]? with
 |some .loop=>true
 |_=>false
variable (B:List Nat) (J:List (Nat×LA))
def x9:Code->Nat->Nat->List TV->List TB->KC->Prop
 |.skip,_,_,te,tS,K|.label _,_,_,te,tS,K=>K .normal te tS
 |.exit id,_,_,te,tS,K=>K (.exit id) te tS
 |.ret,_,_,te,tS,K=>K .ret te tS
 |.scope c,i,lv,te,tS,K=>x9 c i lv te tS K
 |.block id c,i,lv,te,tS,K=>x9 c i lv te tS λe te tS=>match e with
  |.exit iT=>if iT=id then K .normal te tS else K (.exit iT) te tS
  |.normal=>K .normal te tS
  |.ret=>K .ret te tS
 |.cond x a b,i,lv,te,tS,K=>match fK te x with
  |some (.val (.bool t))=>aS t (Ug x te true λte=>x9 a i lv te tS K) (Ug x te false λte=>x9 b (i+cnt a) lv te tS K)
  |_=>False
 |.seq a b,i,lv,te,tS,K=>match acf J i te tS with
  |some la=>match M7 P a with
   |some ops=>aS (mg ops (Region.before ops)&&Vo ((lv|||nQ b)&&&(2^400-1-(defs a))) ops) (qw P ty tt T inl 1 0 ops ops.toList 0 te tS [] λbX _ _=>la.some λbd=>ask (wL bd.sl 0 bX) (Ar bd.cO True)) False/\
    la.all λbd=>impl bd.cO (dc (oC bd.sl ((lv|||nQ b)&&&(2^400-1-(defs a))) 0 te) λmI=>x9 b (i+1+cnt a) lv mI tS K)
   |none=>x9 a (i+1) (lv|||nQ b) te tS (λe bX bN=>match e with
    |.normal=>la.some λbd=>UL B (oC bd.sl ((lv|||nQ b)&&&(2^400-1-(defs a))) 0 te) (yF bd tS) bd bX bN True
    |.exit id=>K (.exit id) bX bN
    |.ret=>K .ret bX bN)/\la.all λbd=>impl bd.cO (dc (oC bd.sl ((lv|||nQ b)&&&(2^400-1-(defs a))) 0 te) λmI=>bW (yF bd tS) λiM=>x9 b (i+1+cnt a) lv mI iM K)
  |none=>x9 a (i+1) (lv|||nQ b) te tS λe te tS=>match e with
   |.normal=>x9 b (i+1+cnt a) lv te tS K
   |.exit id=>K (.exit id) te tS
   |.ret=>K .ret te tS
 |.loop c,i,lv,te,tS,K=>match acf J i te tS with
  |some la=>unK (λte tS K'=>x9 c (i+1) (lv|||nQ c) te tS λe te tS=>match e with
    |.normal=>K' te tS
    |.exit id=>K (.exit id) te tS
    |.ret=>K .ret te tS) (λte tS=>match la.inner.at te tS with
     |.un n=>unK (λte tS K'=>x9 c (i+1) (lv|||nQ c) te tS λe te tS=>match e with
      |.normal=>K' te tS
      |.exit id=>K (.exit id) te tS
      |.ret=>K .ret te tS) (λ_ _=>False) (min n 1000) te tS
     |la=>(la.some λbd=>VB B bd ((lv|||nQ c)&&&(2^400-1-(defs c))) te tS (bd.m<1000000))/\
   la.all λbd=>impl bd.cO (dc (oC bd.sl ((lv|||nQ c)&&&(2^400-1-(defs c))) 0 te) λmI=>bW (yF bd tS) λiM=>x9 c (i+1) (lv|||nQ c) mI iM λe bX bN=>match e with
    |.normal=>la.some λbd'=>UL B (oC bd'.sl ((lv|||nQ c)&&&(2^400-1-(defs c))) 0 te) (yF bd' tS) bd' bX bN (bd'.m<bd.m)
    |.exit id=>K (.exit id) bX bN
    |.ret=>K .ret bX bN)) (min la.abJ 1000) te tS
  |none=>False
 |.region _ ops draw,_,_,te,tS,K=>match draw with
  |true=>match wJ P ops with
   |true=>aS (mg ops (Region.before ops)) (bW (tS++List.replicate ops.size .none) λny=>qw P ty tt T inl 2 tS.length ops ops.toList 0 te ny [] λte tS fs=>aS (ur (Region.before ops) fs) (bW (oy tS) λtS=>K .normal te tS) False) False
   |false=>aS (mg ops (Region.before ops)) (qw P ty tt T inl 1 0 ops ops.toList 0 te tS [] λte _ _=>K .normal te tS) False
  |false=>qw P ty tt T inl 0 0 ops ops.toList 0 te tS [] λte tS _=>bW (oy tS) λtS=>K .normal te tS
 |.rangeFunc f _ _ _,_,_,te,tS,K=>match inl.me,fK te f with
  |some me,some (.fn g fs cs)=>match T.X g with
   |some (fn,j)=>inl.c fn j (fs++[.od tS.length me (ga tS te)]++cs) (tS++[.loop]) λ_ bN=>aS (Vl bN tS.length&&!(eW (ga tS te)++oA bN).contains tS.length) (dc (ga tS te) λte=>bW (bN.set tS.length .none) λtS=>K .normal te tS) False
   |none=>False
  |_,_=>False
 |_,_,_,_,_,_=>False
def adh(ty:fR)(rs:List ResultVar)(iY:List (Option TT))(s:tC)(te:List TV)(tS:List TB):Prop:=
 match xu ty te tS rs with
 |some vs=>dc (yw tS vs) λvs=>aS (vs.all eM&&(refs (kA (bL iY vs))).isEmpty) (s.some λv _ facts=>ask (Yg (kA (bL iY vs)) v) (dg facts)) False
 |none=>False
def adi(ty:fR)(rs:List ResultVar)(iY oc:List (Option TT))(s:tC)(te:List TV)(tS:List TB):Prop:=
 match xu ty te tS rs,tS with
 |some vs,.cells ts::_=>aS (vs.all eM&&(refs (kA (bL iY vs))).isEmpty&&(ts.all eM&&(eW (bL oc ts)).isEmpty)) (s.some λv cs facts=>ask (Yg (kA (bL iY vs)) v) (ask (QF (bL oc ts) cs) (dg facts))) False
 |_,_=>False
def adg(ty:fR)(rs:List ResultVar)(iY:List (Option TT))(n:Nat)(s:tC)(te:List TV)(tS:List TB):Prop:=
 match xu ty te tS rs,J2 n tS (List.range n)with
 |some vs,some t=>aS (vs.all eM&&BF (kA (bL iY vs))) (s.some λv cs facts=>ask (Yg (kA (bL iY vs)) v) (ask (QF (t.map .agg) cs) (dg facts))) False
 |_,_=>False
def Up(oc:List (Option TT))(ts:List TV):List TV:=
 match oc,ts with
 |[],a::l=>match qZ a with
  |true=>ki none a::bL [] l
  |false=>bL [] (a::l)
 |oc,ts=>bL oc ts
def adf(ty:fR)(rs:List ResultVar)(oc:List (Option TT))(s:tC)(te:List TV)(tS:List TB):Prop:=
 match xu ty te tS rs,tS with
 |some [.ptr 0 0],.cells ts::_=>aS (ts.all eM&&(eW (bL oc ts)).isEmpty) (s.some λ_ cs facts=>ask (QF (Up oc ts) cs) (dg facts)) False
 |_,_=>False
def ade(ty:fR)(rs:List ResultVar)(e:TypeId)(s:tC)(te:List TV)(tS:List TB):Prop:=
 match xu ty te tS rs with
 |some [.sl t CG (.je g)]=>match tS[g]? with
  |some (.own e' n)=>aS (e'==e&&n==t.size) (CG≠[]/\s.some λv _ facts=>ask (Yg (.sl t CG .no) v) (dg facts)) False
  |_=>False
 |_=>False
def MN(F:List TV->List TB->Prop)(e:DX)(te:List TV)(tS:List TB):Prop:=
 match e with
 |.exit _=>False
 |.normal=>F te tS
 |.ret=>F te tS
end
def vC(rs:List ResultVar):Nat:=rs.foldl (λa x=>match x with|.tmp t=>a|||2^t|.cell t _=>a|||2^t) 0
def MD(n:Nat)(l:List TV):List TV:=l++List.replicate (n-l.length) .unk
def mb(f:Func):Code:=f.body.getD .skip
def adb(ty:fR)(rs:List ResultVar)(K:TV->List TB->Prop)(te:List TV)(tS:List TB):Prop:=
 match xu ty te tS rs with
 |some vs=>K (kA vs) tS
 |none=>False
def QM(n:Nat)(tS:List TB):List TB:=tS++List.replicate (n-tS.length) .none
def adl(k:Nat)(tS:List TB)(K:List TB->Prop):Prop:=
 match tS[k]? with
 |some .none=>K tS
 |_=>False
def acs(P:Program)(ty:fR)(tt:TypeId->Option TT)(T:eZ)(inl:Inl)(k:Nat)(fn:FuncId)(Ad xs:List TV)(tS:List TB)(K:List TB->Prop):Prop:=
 match T.me,T.yp with
 |some me,(ps,oD,body)=>aS (me==fn&&xs.length==ps.length&&!(eW (oz Ad (ps.zip xs))++oA tS).contains k) (dc (oz Ad (ps.zip xs)) λte=>bW (tS.set k .none) λny=>x9 P ty tt T inl (ou k tS) T.Y oD 0 (nQ body) te ny λe te iM=>match e with
  |.normal=>x9 P ty tt T inl (ou k tS) T.Y body (cnt oD) 0 te iM λe _ jQ=>match e with
   |.normal=>adl k (QM tS.length jQ) K
   |_=>False
  |_=>False) False
 |none,_=>False
def QS(P:Program)(ty:fR)(tt:TypeId->Option TT)(T:eZ):Nat->Inl
 |0=>⟨λ_ _ _ _ _=>False,λ_ _ _ _ _ _=>False,none⟩
 |d+1=>⟨λfn j A tS K=>dc (MD fn.ntmps A) λte=>x9 P ty tt T (QS P ty tt T d) (dF 0 tS) j (mb fn) 0 (vC fn.results.toList) te tS (MN (adb ty fn.results.toList K)),acs P ty tt T (QS P ty tt T d),none⟩
def QO(P:Program)(ty:fR)(tt:TypeId->Option TT)(T:eZ)(d:Nat):Inl:=⟨(QS P ty tt T d).c,(QS P ty tt T d).y,T.me⟩
end Go.Tv
