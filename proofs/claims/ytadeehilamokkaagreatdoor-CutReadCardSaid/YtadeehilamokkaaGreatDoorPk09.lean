import Derived.Test.YtadeehilamokkaaGreatDoorPk08
namespace Go.Tv
open Go Go.Di Go.Proofs
def Db(tS:cp)(k:Nat):Option (TV×cn):=
 match tS[k]? with
 |some (.cells (a::l))=>match qn a with
  |true=>some (a,l)
  |false=>none
 |_=>none
def Mj(e s:Nat):cp->Nat
 |.own e' s'::l=>match e'==e&&s'==s with
  |true=>Mj e s l+1
  |false=>0
 |_=>0
def pF(e s:Nat):Nat->cp->Nat×Nat
 |i,[]=>(i,0)
 |i,b::l=>match Mj e s (b::l)with
  |0=>pF e s (i+1) l
  |n+1=>(i,n+1)
def HI(tS:cp)(g:Nat):cp->cp
 |[]=>[]
 |.cells l::m=>.cells (match l with
  |[]=>[]
  |a::l=>match qn a with
   |true=>a::oB g l
   |false=>fG tS (a::l))::HI tS g m
 |b::m=>b::HI tS g m
def ag8(l:cn)(j:Nat)(v:TV):cn:=l.set j v
inductive acU where
 |ix (v:TV) (c:Prop)
 |ld0 (id off:Nat) (t:TT) (x:List t.den)
 |ld (id off:Nat) (u:TT) (c:TV) (l:cn) (b:Bool)
 |st (id off:Nat) (c:TV) (l:cn) (u:TT) (y:List u.den) (g:Nat)
 |ap (e s g:Nat) (k:TT) (l:List k.den) (c:Prop)
def adm:TV->Bool
 |.sl _ _ (.stop b)=>b
 |_=>false
def aen(u:TT):TV->Option (List u.den)
 |.sl t l _=>if h:t=u then some (h▸l)else none
 |_=>none
section
variable (P:Program) (ty:fo) (tt:TypeId->cy)
def BS(te:cn)(tS:cp)(o:Oper):Option acU:=
 match o.op with
 |.indexAddr t x i=>match fe te x with
  |some (.ptr id off)=>match Db tS id with
   |some _=>match ty t,Hw te i with
    |some ⟨.array k s _,_,_⟩,some n=>some (.ix (.ptr id (n.toNat*s+off)) (0<=n/\n<(k:Int)))
    |_,_=>none
   |none=>none
  |_=>none
 |.load t a=>match fe te a with
  |some (.ptr id off)=>match Db tS id with
   |some (c,l)=>match ty t,tt t with
    |some d,some (.sl u)=>match d.k.isAgg with
     |true=>none
     |false=>match aen u c with
      |some x=>some (.ld0 id off u x)
      |none=>some (.ld id off u c l (adm c))
    |_,_=>none
   |none=>none
  |_=>none
 |.store t a x=>match fe te a with
  |some (.ptr id off)=>match Db tS id with
   |some (c,l)=>match ty t,fe te x with
    |some d,some (.sl u y (.BM g))=>match d.size==1 with
     |true=>some (.st id off c l u y g)
     |false=>none
    |_,_=>none
   |none=>none
  |_=>none
 |.call {callee:=.builtin .append,args,argTypes}=>match args.toList,argTypes.toList with
  |[x,y],[t,u]=>match fe te x with
   |some (.sl k l (.BM g))=>if t=u/\ty.h o≠1 then match ty t,(fe te y).map (fA tt t)with
    |some ⟨.slice e s kN _,_,_⟩,some (.sl k' m _)=>match ty e with
     |some ⟨_,_,some _⟩=>if h:k'=k then
      if decide (0<s)&&decide (kN<=100000)&&k.size==s then some (.ap e s g k (l++(h▸m)) (l.length+m.length<=1000000000))else none
      else none
     |_=>none
    |_,_=>none
    else none
   |_=>none
  |_,_=>none
 |_=>none
end
variable {P:Program} {ty:fo} {tt:TypeId->cy} {ι ι' w:kB} {S S':aj} {te bO:cn} {env:cj} {tS bI:cp} {aD:bR} {call:aY} {yf:di} {o:Oper} {aB nT:Nat} {B:cx} {ops:Array Oper}
def Tg(u v:TV):Prop:=∀ι S d,RT ι S v d->RT ι S u d
def CS(l m:cn):Prop:=∀ι S ds,cz ι S m ds->cz ι S l ds
def TS(bI tS:cp):Prop:=∀k:Nat,bI[k]? =tS[k]? \/∃a b,bI[k]? =some (.cells a)/\tS[k]? =some (.cells b)/\CS a b
theorem CS.refl (l:cn):CS l l:=λ_ _ _ h=>h
theorem Tg.refl (v:TV):Tg v v:=λ_ _ _ h=>h
theorem TS.refl (tS:cp):TS tS tS:=λ_=>.inl rfl
theorem uE{u v:TV}{l m:cn}(h:Tg u v)(k:CS l m):CS (u::l) (v::m):=λι S ds hd=>by obtain⟨d,m',rfl,h1,h2⟩:=ax hd;exact aO (h _ _ _ h1) (k _ _ _ h2)
theorem MA{u v:TV}(h:Tg u v):∀(i:Nat)(l:cn),CS (l.set i u) (l.set i v)
 |_,[]=>CS.refl _
 |0,_::l=>uE h (CS.refl l)
 |i+1,a::l=>uE (Tg.refl a) (MA h i l)
theorem ac7{u v:TV}(h:Tg u v)(dst:Option Tmp)(l:cn):CS (jI l dst u) (jI l dst v):=by
 cases dst with
 |none=>exact CS.refl _
 |some d=>exact MA h d l
theorem MK(h:bL ι te tS env S)(h1:CS bO te)(h2:TS bI tS):bL ι bO bI env S:=by
 refine⟨h1 _ _ _ h.env,λk l hk=>?_,λk e s hk=>?_,λk k' hk=>?_,h.inj,λk b hk t ht=>?_⟩;rcases h2 k with e|⟨a,b,e1,e2,e3⟩;exact h.cells k l (e▸hk);rw[e1]at hk;cases hk;obtain⟨k',ds,n1,n2,n3⟩:=h.cells k b e2;exact⟨k',ds,n1,n2,e3 _ _ _ n3⟩;rcases h2 k with e'|⟨a,b,e1,e2,e3⟩;exact h.own k e s (e'▸hk)
 grind
 obtain⟨b,n1,n2⟩:=h.qc k k' hk;rcases h2 k with e|⟨a,b',e1,e2,e3⟩
 grind
 grind
 rcases h2 k with e|⟨a,b',e1,e2,e3⟩;exact h.mp k b (e▸hk) t ht;rw[e1]at hk;cases hk;trivial
theorem ad8(h:nM B tS)(h2:TS bI tS):nM B bI:=λk hk=>by
 obtain⟨l,h1⟩:=h k hk;rcases h2 k with e|⟨a,b',e1,e2,e3⟩
 grind
 exact⟨some a,e1⟩
theorem aeY{k:Nat}{Q:cn->Prop}(h:CS bO te)(hq:WQ P ty aD call yf ops tS k bO Q):WQ P ty aD call yf ops tS k te Q:=
 λι env S hR=>hq ι env S (MK hR h (TS.refl _))
theorem CF{dr:Bool}{Q Q':TV->cn->cp->cM->Prop}(h:Does P ty aD call yf B o nT te tS dr Q)(hq:∀v bO bI ft,Q v bO bI ft->∃v2 Tn jk ft2,Tg v2 v/\CS Tn bO/\TS jk bI/\(ft.wr=true->ft2.wr=true)/\(∀l,ft2.ids=some l->∃l',ft.ids=some l'/\∀j∈l',j∈l)/\Q' v2 Tn jk ft2):Does P ty aD call yf B o nT te tS dr Q':=by
 intro ι w env S aB hR hB hw hT hn hS;obtain⟨d,S',ι',w',v,bO,bI,f,ft,h1,h2,h3,h4,h5,h6,h7,h8,h9,vE,FJ,TQ⟩:=h ι w env S aB hR hB hw hT hn hS;obtain⟨v2,Tn,jk,ft2,q1,q2,q3,q4,q5,q6⟩:=hq _ _ _ _ TQ;refine⟨d,S',ι',w',v2,Tn,jk,f,ft2,h1,h2,⟨λe=>q4 (h3.1 e),λl hl=>?_⟩,λl m hl hm=>?_,MK h5 q2 q3,q1 _ _ _ h6,h7,h8,h9,ad8 vE q3,FJ,q6⟩;obtain⟨l',e1,e2⟩:=q5 l hl;obtain⟨m,e3,e4⟩:=h3.2 l' e1;exact⟨m,e3,λj hj=>(e4 j hj).imp λi hi=>⟨e2 _ hi.1,hi.2⟩⟩
 grind
theorem XG{dr:Bool}{Q:TV->cn->cp->cM->Prop}(h1:CS bO te)(h:Does P ty aD call yf B o nT bO tS dr Q):Does P ty aD call yf B o nT te tS dr Q:=
 λι w env S aB hR=>h ι w env S aB (MK hR h1 (TS.refl _))
theorem Ad{k:Nat}{a:TV}{l:cn}(h:Db tS k=some (a,l)):tS[k]? =some (.cells (a::l))/\qn a=true:=by
 unfold Db at h;split at h
 grind
 cases h
def oC:TV->TV
 |.sl t l (.BM g)=>.sl t l (.o5 g)
 |v=>v
theorem VY(v:TV)(d:DV):RT ι S (oC v) d↔RT ι S v d:=by
 unfold oC;split;cases d<;>simp only[RT,pq]
 grind
theorem JY:∀l:cn,CS (l.map oC) l
 |[]=>CS.refl _
 |a::l=>uE (λ_ _ _ h=>(VY a _).2 h) (JY l)
theorem GO{x:Operand}{v:TV}(h:fe te x=some v):fe (te.map oC) x=some (oC v):=by
 cases x with
 |tmp t=>simp only[fe,aF]at h⊢;subst h;rw[aP,aP,cI];cases te[t]?<;>rfl
 |const v0=>
  simp only[fe,af]at h⊢;obtain⟨d,h1,rfl⟩:=h;refine⟨d,h1,?_⟩;have h1:∀d,oC (sH d)=sH d:=λd=>by unfold sH;split<;>rfl
  unfold YY;split;rfl;rfl
  grind
 |func f=>simp only[fe,aF]at h⊢;subst h;rfl
 |global _=>simp[fe]at h
theorem IP{t:TypeId}{v v':TV}(h:fA tt t v=v'):fA tt t (oC v)=oC v':=by
 subst h;cases v with
 |jo=>simp only[oC,fA];split<;>rfl
 |sl t l ap=>cases ap<;>rfl
 |_=>rfl
mutual
theorem D9{g e s:Nat}(hg:tS[g]? =some (.own e s)):∀(v:TV)(d:DV),RT ι S (vt g v) d->RT ι S (dR tS v) d
 |.unk,_,_=>by simp only[dR,RT]
 |.val _,d,k=>by simpa only[vt,dR]using k
 |.jo,d,k=>by simpa only[vt,dR]using k
 |.agg l,d,k=>by cases d<;>simp only[vt,dR,RT]at k⊢;exact ow hg l _ k
 |.tup l,d,k=>by cases d<;>simp only[vt,dR,RT]at k⊢;exact ow hg l _ k
 |.sl t l .no,d,k=>by simpa only[vt,dR]using k
 |.sl t l .full,d,k=>by simpa only[vt,dR]using k
 |.sl t l (.stop b),d,k=>by simpa only[vt,dR]using k
 |.sl t l (.BM _),d,k=>by simpa only[vt,dR]using k
 |.sl t l (.o5 j),d,k=>by simp only[vt]at k;simp only[dR];split at k;exact k;cases d<;>simp only[RT]at k⊢;exact⟨k.1,trivial⟩
 |.ptr id off,d,k=>by simp only[vt]at k;simp only[dR];split;rename_i hc;rw[if_neg]at k;exact k;rintro rfl;simp only[js,hg]at hc;cases hc;simp only[RT]
 |.eU t l i off,d,k=>by simpa only[vt,dR]using k
 |.mp id,d,k=>by simp only[dR,RT]
 |.so g t,d,k=>by simp only[dR,RT]
 |.sp g t i off,d,k=>by simp only[dR,RT]
 |.nj k0 fn te,d,k=>by simp only[dR,RT]
 |.fn f a b,d,k=>by cases d<;>simp only[vt,dR,RT]at k⊢;exact⟨k.1,ow hg a _ k.2.1,ow hg b _ k.2.2⟩
theorem ow{g e s:Nat}(hg:tS[g]? =some (.own e s)):∀(l:cn)(m:cj),cz ι S (oB g l) m->cz ι S (fG tS l) m
 |[],m,k=>k
 |a::l,m,k=>by simp only[oB]at k;obtain⟨d,m',rfl,h1,h2⟩:=ax k;simp only[fG];exact aO (D9 hg a d h1) (ow hg l m' h2)
end
theorem EN{g e s:Nat}(hg:tS[g]? =some (.own e s)):∀l:cn,CS (fG tS l) (oB g (l.map oC))
 |[]=>CS.refl _
 |a::l=>by simp only[bg,oB,fG];refine uE (λι S d h=>?_) (EN hg l);unfold oC at h;split at h;rename_i t l0 g0;have:=D9 hg (.sl t l0 (.o5 g0)) d h;simpa only[dR]using this;exact D9 hg a d h
theorem P7{g e s:Nat}(hg:tS[g]? =some (.own e s)):∀m:cp,TS (HI tS g m) (m.map (pn g))
 |[]=>TS.refl _
 |b::m=>by
  have ih:=P7 hg m;intro k;cases b with
  |cells l=>
   simp only[HI,bg,pn];cases k with
   |zero=>
    refine .inr ⟨_,_,rfl,rfl,?_⟩;cases l with
    |nil=>exact CS.refl _
    |cons a l=>
     simp only;split
     .rename_i hs;simp only[oB];refine uE (λι S d h=>?_) (CS.refl _);cases a<;>first|(cases hs;done)|skip
      rename_i t x ap;cases ap<;>first|(cases hs;done)|skip
      simpa only[vt]using h
     exactλι S ds h=>ow hg (a::l) ds h
   |succ k=>simpa using ih k
  |_=>
   simp only[HI,bg,pn];cases k with
   |zero=>exact .inl rfl
   |succ k=>simpa using ih k
theorem O5{e s:Nat}:∀{l:cp}{j:Nat},j<Mj e s l->l[j]? =some (.own e s)
 |[],_,h=>by simp[Mj]at h
 |b::l,j,h=>by
  cases b with
  |own e' s'=>
   simp only[Mj]at h;split at h;rename_i hc;simp only[aC,dL]at hc;obtain⟨rfl,rfl⟩:=hc;cases j with
   |zero=>rfl
   |succ j=>simpa using O5 (l:=l) (j:=j) U
   omega
  |_=>simp only[Mj]at h;omega
theorem Kv{e s:Nat}:∀{l:cp}{i g:Nat},(pF e s i l).1<=g->g<(pF e s i l).1+(pF e s i l).2->i<=g/\l[g-i]? =some (.own e s)
 |[],i,g,h1,h2=>by simp only[pF]at h1 h2;omega
 |b::l,i,g,h1,h2=>by
  simp only[pF]at h1 h2;cases hr:Mj e s (b::l)with
  |zero=>rw[hr]at h1 h2;obtain⟨q1,q2⟩:=Kv h1 h2;refine⟨U,?_⟩;rw[show g-i=(g-(i+1))+1 by omega];simpa using q2
  |succ n=>rw[hr]at h1 h2;simp only at h1 h2;exact⟨h1,O5 U⟩
theorem WV{c v:TV}{l:cn}{j:Nat}(hj:j<l.length):Mk (c::l) (j+1) [v]=some (c::l.set j v):=by unfold Mk;rw[if_pos (by simp;omega)];simp only[List.take_succ_cons,j9,dA,j8,eN,List.drop_succ_cons,aF,List.cons.injEq,true_and];rw[rP,List.singleton_append,List.set_eq_take_append_cons_drop,if_pos hj]
theorem adj{v:TV}{c:Prop}(h:BS ty tt te tS o=some (.ix v c))(hc:c):bJ P ty tt te tS o=some (v,True)/\(∃t x i,o.op=.indexAddr t x i):=by unfold BS at h;split at h;rename_i t x i ho;refine⟨?_,_,_,_,ho⟩;split at h;rename_i id off e2;split at h;split at h;rename_i k s agg sz z n e1 e3;cases h;simp only[bJ,ho,e1,e2,e3,az,fA];rw[if_pos ⟨hc.1,U⟩,yl];cases h;cases h;cases h;all_goals (repeat' split at h)<;>cases h
theorem ZM{id off:Nat}{t:TT}{x:List t.den}(h:BS ty tt te tS o=some (.ld0 id off t x))(hc:off=0):(∃ap,bJ P ty tt te tS o=some (.sl t x ap,True))/\ku te o=[id]/\∃t a,o.op=.load t a:=by
 unfold BS at h;split at h
 grind
 .rename_i tl a ho;split at h
  .rename_i iz ry e3;split at h
   .rename_i c l hs;obtain⟨k1,k2⟩:=Ad hs;split at h
    rotate_left
    cases h;rename_i d u e1 e2;split at h;cases h;rename_i acE;split at h;rename_i x' hx;cases h;subst hc;unfold aen at hx;split at hx;rename_i t' l' Qw;split at hx;rename_i ht;subst ht;cases hx;exact⟨⟨Qw,by simp only[bJ,ho,e1,e3,k1,vG,acE,aJ,if_false,dB,az,fA]⟩,by simp only[ku,ho,e3],_,_,ho⟩;cases hx;cases hx;cases h
   cases h
  cases h
 all_goals (repeat' split at h)<;>cases h
theorem U6{id off:Nat}{u:TT}{c:TV}{l:cn}{b:Bool}(h:BS ty tt te tS o=some (.ld id off u c l b)){x:List u.den}{ap:Ap}(hx:(c::l)[off]? =some (.sl u x ap)):bJ P ty tt te tS o=some (.sl u x ap,True)/\ku te o=[id]/\∃t a,o.op=.load t a:=by
 unfold BS at h;split at h
 grind
 .rename_i tl a ho;split at h
  .rename_i iz ry e3;split at h
   .rename_i c l hs;obtain⟨k1,k2⟩:=Ad hs;split at h
    rotate_left
    cases h;rename_i d u e1 e2;split at h;cases h;rename_i acE;split at h;cases h;cases h;exact⟨by simp only[bJ,ho,e1,e3,k1,vG,acE,aJ,if_false,hx,az,fA],by simp only[ku,ho,e3],_,_,ho⟩
   cases h
  cases h
 all_goals (repeat' split at h)<;>cases h
theorem Ek{v:TV}(hp:bJ P ty tt te tS o=some (v,True))(ho:(∃t x i,o.op=.indexAddr t x i)\/∃t a,o.op=.load t a):stepT P ty tt te tS o nT=some ⟨v,te,tS,ku te o,True⟩/\mO o=false:=by rcases ho with ⟨t,x,i,ho⟩|⟨t,a,ho⟩;exact⟨by simp only[stepT,ho,hp,az],by simp only[mO,ho]⟩;exact⟨by simp only[stepT,ho,hp,az],by simp only[mO,ho]⟩
theorem aaJ{id off:Nat}{c:TV}{l:cn}{u:TT}{y:List u.den}{g j:Nat}(h:BS ty tt te tS o=some (.st id off c l u y g))(ho:off=j+1)(hj:j<l.length)(dr:Bool):Does P ty aD call yf B o nT te tS dr λv bO bI ft=>v=.unk/\bO=te/\bI=tS.set id (.cells (c::l.set j (.sl u y (.o5 g))))/\ft=⟨some [id],true⟩:=by
 unfold BS at h;split at h
 grind
 ·(repeat' split at h)<;>cases h
 .rename_i t a x hop;split at h
  .rename_i iz ry e2;split at h
   .rename_i c' l' hs;obtain⟨k1,k2⟩:=Ad hs;split at h
    rotate_left
    cases h;rename_i d u' y' g' e1 e3;split at h;rename_i hd;cases h;subst ho;have hst:stepT P ty tt te tS o nT=some ⟨.unk,te,tS.set id (.cells (c::l.set j (.sl u y (.BM g)))),[id],True⟩:=by
     have xz:d.size=1:=by simpa using hd
     have hr:fA tt t (.sl u y (.BM g))=.sl u y (.BM g):=rfl;simp only[stepT,hop,e1,e2,e3,az,hr,k1,TV.known,TV.cells,aa1,cA,List.all_nil,ab9,rL,xz,yq,if_true,WV hj,az]
    refine CF (kI hst trivial dr) ?_;rintro v bO bI ft ⟨rfl,rfl,rfl,rfl⟩;refine⟨.unk,_,_,⟨some [id],true⟩,Tg.refl _,CS.refl _,λk=>?_,λ_=>rfl,λl h=>⟨l,h,λ_ h=>h⟩,rfl,rfl,rfl,rfl⟩;rw[aM,aM];split;split;refine .inr ⟨_,_,rfl,rfl,uE (Tg.refl _) (MA (λι S d h=>?_) j l)⟩;cases d<;>simp only[RT,pq]at h⊢;exact h
    grind
    grind
    cases h
   cases h
  cases h
 all_goals (repeat' split at h)<;>cases h
theorem aaK{e s g:Nat}{k:TT}{l:List k.den}{c:Prop}(h:BS ty tt te tS o=some (.ap e s g k l c))(hc:c)(h1:(pF e s 0 tS).1<=g)(h2:g<(pF e s 0 tS).1+(pF e s 0 tS).2)(dr:Bool):Does P ty aD call yf B o nT te tS dr λv bO bI ft=>v=.sl k l (.BM g)/\bO=fG tS te/\bI=HI tS g tS/\ft=⟨some (nT::List.range' (pF e s 0 tS).1 (pF e s 0 tS).2),true⟩:=by
 obtain⟨-,hg⟩:=Kv h1 h2;rw[Nat.sub_zero]at hg;unfold BS at h;split at h;iterate 3 (· (repeat' split at h)<;>cases h)
 .rename_i args argTypes hop;split at h
  .rename_i x y t u ha ht;split at h
   rotate_left
   cases h;rename_i k1 l0 g0 e2;split at h;rename_i SS;split at h;rename_i e0 s0 kN agg sz z0 k0 m ap1 e1 e3;split at h;rename_i k' sz' z e4;split at h;rename_i hk;subst hk;split at h;rename_i hb;cases h;simp only[af]at e3;obtain⟨v1,f1,f2⟩:=e3;have hst:stepT P ty tt (te.map oC) tS o nT=some ⟨.sl k (l0++m) (.o5 g),oB g (te.map oC),tS.map (pn g),[g,nT],l0.length+m.length<=1000000000⟩:=by
    have hx:=GO e2;have hy:=GO f1;have hr:fA tt t (.sl k l0 (.o5 g))=.sl k l0 (.o5 g):=rfl;have Jm:=IP (tt:=tt) f2;have hu:∃ap2,oC (TV.sl k m ap1)=.sl k m ap2:=by cases ap1<;>exact⟨_,rfl⟩
    obtain⟨ap2,hu⟩:=hu;rw[hu]at Jm;have jL:fe (te.map oC) x=some (.sl k l0 (.o5 g)):=hx;obtain⟨rfl,hh⟩:=SS;simp only[stepT,hop,ha,ht,hh,ne_eq,not_false_eq_true,and_self,if_true,e1,jL,hy,az,hr,Jm,e4,dite_true,hb,hg,yq,gh]
   refine XG (JY te) (CF (kI hst hc dr) ?_);rintro v bO bI ft ⟨rfl,rfl,rfl,rfl⟩;refine⟨_,_,_,_,λι S d h=>?_,EN hg te,P7 hg tS,λ_=>rfl,λl' jm=>⟨_,rfl,λj hj=>?_⟩,rfl,rfl,rfl,rfl⟩;cases d<;>simp only[RT,pq]at h⊢;exact h
   grind
   cases h;cases h;cases h;cases h;cases h
  cases h
 cases h
end Go.Tv
namespace Go.Tv
open Go Go.Di Go.Proofs
def eD(b:Bool)(A B:Prop):Prop:=
 match b with
 |true=>A
 |false=>B
def zF:List Prop->Prop->Prop
 |[],R=>R
 |p::l,R=>p/\zF l R
def cR:List Prop->Prop
 |[]=>True
 |p::l=>p/\cR l
def impl:List Prop->Prop->Prop
 |[],R=>R
 |p::l,R=>p->impl l R
inductive sX:Type 1
 |ex (α:Type) (k:α->sX)
 |res (v:TV) (cs:cn) (facts:List Prop)
def sX.all:sX->(TV->cn->List Prop->Prop)->Prop
 |.ex _ k,K=>∀x,(k x).all K
 |.res v cs fs,K=>K v cs fs
def sX.some:sX->(TV->cn->List Prop->Prop)->Prop
 |.ex _ k,K=>∃x,(k x).some K
 |.res v cs fs,K=>K v cs fs
def sX.holds (s:sX)(v:TV)(cs:cn):Prop:=s.some λv' iq fs=>v=v'/\cs=iq/\cR fs
def sX.tK (s:sX)(v:TV):Prop:=s.some λv' _ fs=>v=v'/\cR fs
def sX.zW (s:sX)(cs:cn):Prop:=s.some λ_ iq fs=>cs=iq/\cR fs
abbrev Sp:=Option (List Prop×sX)
structure Bd where
 sl:List (Nat×TV)
 pl:List (Nat×cn):=[]
 own:List (Nat×Nat):=[]
 kO:List Prop:=[]
 mp:List (Nat×(Σkt:TT,List kt.den)):=[]
 m:Nat:=0
inductive LA:Type 1
 |ex (α:Type) (k:α->LA)
 |st (b:Bd)
 |un (n:Nat)
 |dep (f:cn->cp->LA)
 |pe (n:Nat) (a:LA)
def LA.abl:LA->Nat
 |.pe n _=>n
 |_=>0
def LA.inner:LA->LA
 |.pe _ a=>a
 |a=>a
def LA.at (la:LA)(te:cn)(tS:cp):LA:=
 match la with
 |.dep f=>f te tS
 |la=>la
def aie(te:cn)(i:Nat)(k:br->LA):LA:=
 match te.getD i .unk with
 |.sl (.int .i64) l _=>k l
 |_=>.un 0
def LA.all:LA->(Bd->Prop)->Prop
 |.ex _ k,K=>∀x,(k x).all K
 |.st b,K=>K b
 |_,_=>True
def LA.some:LA->(Bd->Prop)->Prop
 |.ex _ k,K=>∃x,(k x).some K
 |.st b,K=>K b
 |_,_=>False
structure iO where
 I:FuncId->cn->Sp
 C:FuncId->cn->cn->Sp
 N:FuncId->cn->Sp
 X:FuncId->Option (Func×List (Nat×LA)):=λ_=>none
 O:FuncId->cn->Option (List Prop×TypeId×sX):=λ_ _=>none
 M:FuncId->cn->List cn->Sp:=λ_ _ _=>none
 me:Option FuncId:=none
 yp:List Tmp×Code×Code:=([],.skip,.skip)
 Y:List (Nat×LA):=[]
structure pJ (T:iO) (aD:bR) (call:aY):Prop where
 I:∀g a p s,T.I g a=some (p,s)->cR p->tE aD g a λv=>s.tK v
 C:∀g a c p s,T.C g a c=some (p,s)->cR p->Bj call g a c λv cs=>s.holds v cs
 N:∀g a p s,T.N g a=some (p,s)->cR p->C9 aD call g a λcs=>s.zW cs
 O:∀g a p e s,T.O g a=some (p,e,s)->cR p->abS call g a e λv=>s.tK v
 M:∀g a t p s,T.M g a t=some (p,s)->cR p->FZ call g a t λv t=>s.holds v (t.map .agg)
mutual
def fV(v:TV)(K:TV->Prop):Prop:=
 match v with
 |.unk=>K .unk
 |.val (.int k n)=>K (.val (.int k n))
 |.val (.bool b)=>K (.val (.bool b))
 |.val v=>K (.val v)
 |.jo=>K .jo
 |.agg l=>cL l λl=>K (.agg l)
 |.tup l=>cL l λl=>K (.tup l)
 |.sl t l ap=>K (.sl t l ap)
 |.ptr id off=>K (.ptr id off)
 |.eU t l i off=>K (.eU t l i off)
 |.mp id=>K (.mp id)
 |.so g t=>K (.so g t)
 |.sp g t i off=>K (.sp g t i off)
 |.nj k fn te=>cL te λte=>K (.nj k fn te)
 |.fn f a b=>cL a λa=>cL b λb=>K (.fn f a b)
def cL(l:cn)(K:cn->Prop):Prop:=
 match l with
 |[]=>K []
 |a::l=>fV a λa=>match qn a with
  |true=>K (a::l)
  |false=>cL l λl=>K (a::l)
end
def bN(l:cp)(K:cp->Prop):Prop:=
 match l with
 |[]=>K []
 |.cells c::l=>cL c λc=>bN l λl=>K (.cells c::l)
 |.none::l=>bN l λl=>K (.none::l)
 |.loop::l=>bN l λl=>K (.loop::l)
 |.own e s::l=>bN l λl=>K (.own e s::l)
 |.map kt c::l=>bN l λl=>K (.map kt c::l)
 |.rows t e c z::l=>bN l λl=>K (.rows t e c z::l)
def Fa:cn->Nat->TV->(cn->Prop)->Prop
 |[],_,_,K=>K []
 |_::l,0,v,K=>K (v::l)
 |a::l,n+1,v,K=>Fa l n v λl=>K (a::l)
def fQ(te:cn)(dst:Option Tmp)(v:TV)(K:cn->Prop):Prop:=
 match dst with
 |some d=>Fa te d v K
 |none=>K te
mutual
def X9:TV->TV->Option (List Prop)
 |.unk,.unk=>some []
 |.val (.int k a),.val (.int k' b)=>if k=k' then some [a=b]else none
 |.val (.bool a),.val (.bool b)=>some [a=b]
 |.val a,.val b=>some [a=b]
 |.jo,.jo=>some []
 |.agg l,.agg m=>Qv l m
 |.tup l,.tup m=>Qv l m
 |.sl t l .no,.sl t' l' .no=>if h:t=t' then some [h▸l=l']else none
 |.sl t l .full,.sl t' l' .full=>if h:t=t' then some [h▸l=l']else none
 |.sl t l (.o5 g),.sl t' l' (.o5 g')=>if h:t=t' then if g=g' then some [h▸l=l']else none else none
 |.sl t l (.stop b),.sl t' l' (.stop b')=>if h:t=t' then if b=b' then some [h▸l=l']else none else none
 |.ptr i o,.ptr i' o'=>if i=i'/\o=o' then some []else none
 |.mp i,.mp i'=>if i=i' then some []else none
 |.nj k fn te,.nj k' sW bO=>if k=k'/\fn=sW then Qv te bO else none
 |.so i t,.so i' t'=>if i=i'/\t=t' then some []else none
 |.eU t l i o,.eU t' l' i' o'=>if h:t=t' then some [h▸l=l',i=i',o=o']else none
 |.fn f a b,.fn f' a' b'=>if f=f' then match Qv a a',Qv b b' with
  |some x,some y=>some (x++y)
  |_,_=>none else none
 |_,_=>none
def Qv:cn->cn->Option (List Prop)
 |[],[]=>some []
 |a::l,b::m=>match qn a with
  |true=>(X9 a b).map (·++[l=m])
  |false=>match X9 a b,Qv l m with
   |some x,some y=>some (x++y)
   |_,_=>none
 |_,_=>none
end
mutual
def leT:TV->TV->Option (List Prop)
 |_,.unk=>some []
 |.sl t l _,.sl t' l' .no=>if h:t=t' then some [h▸l=l']else none
 |.sl t l _,.sl t' l' (.stop _)=>if h:t=t' then some [h▸l=l']else none
 |.sl t l .full,.sl t' l' (.o5 _)=>match l with
  |[]=>if t=t' then some [[]=l']else none
  |_::_=>none
 |.jo,.sl _ l _=>some [[]=l]
 |.agg l,.agg m=>Hu l m
 |v,u=>X9 v u
def Hu:cn->cn->Option (List Prop)
 |[],[]=>some []
 |a::l,b::m=>match qn b with
  |true=>(leT a b).map (·++[uD m l])
  |false=>match leT a b,Hu l m with
   |some x,some y=>some (x++y)
   |_,_=>none
 |_,_=>none
end
def qg:cp->cp->Option (List Prop)
 |_,[]=>some []
 |_::l,.none::m=>qg l m
 |.loop::l,.loop::m=>qg l m
 |.cells a::l,.cells b::m=>match Hu a b,qg l m with
  |some x,some y=>some (x++y)
  |_,_=>none
 |.own e s::l,.own e' s'::m=>if e=e'/\s=s' then qg l m else none
 |.map kt a::l,.map kt' b::m=>if h:kt=kt' then match qg l m with
  |some y=>some ((h▸a=b)::y)
  |none=>none else none
 |.rows t e a z::l,.rows t' e' b z'::m=>if h:t=t' then if e=e'/\z=z' then match qg l m with
  |some y=>some ((h▸a=b)::y)
  |none=>none else none else none
 |[],.own _ _::m=>qg [] m
 |_,_=>none
def ask(o:Option (List Prop))(K:Prop):Prop:=
 match o with
 |some l=>zF l K
 |none=>False
section
variable (P:Program) (ty:fo) (tt:TypeId->cy) (T:iO)
def xw(n:Int):Prop:=-9223372036854775808<=n/\n<=9223372036854775807
def aeT(a b:Int):Int:=
 match a with
 |.ofNat n=>IntKind.i64.wrap ((BitVec.ofInt 64 (.ofNat n)&&&BitVec.ofInt 64 b).toNat:Int)
 |.negSucc n=>IntKind.i64.wrap ((BitVec.ofInt 64 (.negSucc n)&&&BitVec.ofInt 64 b).toNat:Int)
def Dq(te:cn)(o:Oper):Option (TV×Prop):=
 match o.op with
 |.binOp .add _ x y _=>match fe te x,fe te y with
  |some (.val (.int .i64 a)),some (.val (.int .i64 b))=>some (.val (.int .i64 (a+b)),xw (a+b))
  |_,_=>none
 |.binOp .sub _ x y _=>match fe te x,fe te y with
  |some (.val (.int .i64 a)),some (.val (.int .i64 b))=>some (.val (.int .i64 (a-b)),xw (a-b))
  |_,_=>none
 |.binOp .mul _ x y _=>match fe te x,fe te y with
  |some (.val (.int .i64 a)),some (.val (.int .i64 b))=>some (.val (.int .i64 (a*b)),xw (a*b))
  |_,_=>none
 |.unOp .neg _ x=>match fe te x with
  |some (.val (.int .i64 a))=>some (.val (.int .i64 (-a)),xw (-a))
  |_=>none
 |.binOp .and _ x y _=>match fe te x,fe te y with
  |some (.val (.int .i64 a)),some (.val (.int .i64 b))=>some (.val (.int .i64 (aeT a b)),True)
  |_,_=>none
 |_=>none
abbrev acL(xs ys:Array Value):List Field->Option Bool:=JN P (eqV P 1) xs ys
def Ui(te:cn)(o:Oper):Option Bool:=
 match o.op with
 |.binOp .neq t x y _=>match(fe te x).bind gP,(fe te y).bind gP with
  |some (.agg xs),some (.agg ys)=>match P.underlying t,P.stoodInHeld t,P.eqGuardType P.depth t with
   |some (.struct fs),false,false=>(acL P xs ys fs.toList).map λr=>!r
   |_,_,_=>none
  |_,_=>none
 |.binOp .eql t x y _=>match(fe te x).bind gP,(fe te y).bind gP with
  |some (.agg xs),some (.agg ys)=>match P.underlying t,P.stoodInHeld t,P.eqGuardType P.depth t with
   |some (.struct fs),false,false=>acL P xs ys fs.toList
   |_,_,_=>none
  |_,_=>none
 |_=>none
def zZ(o:Oper):Bool:=
 match o.op with
 |.slice .. |.indexAddr .. =>true
 |.call {callee:=.builtin .append,.. }=>true
 |_=>false
def acS(te:cn)(o:Oper):Option (Tmp×Int×Nat):=
 match o.op with
 |.indexAddr t _ (.tmp i)=>match ty t,te[i]? with
  |some ⟨.array k _ _,_,_⟩,some (.val (.int .i64 n))=>some (i,n,k)
  |_,_=>none
 |.index t _ (.tmp i)=>match ty t,te[i]? with
  |some ⟨.array k _ _,_,_⟩,some (.val (.int .i64 n))=>some (i,n,k)
  |_,_=>none
 |_=>none
def splitK(n:Int)(K:Nat->Prop):Nat->Nat->Prop
 |0,_=>False
 |c+1,j=>eD (decide (n=(j:Int))) (K j) (splitK n K c (j+1))
def ace(te:cn)(o:Oper):Option (Bool×Prop):=
 match o.op with
 |.binOp .eql t x y _=>match ty t,fe te x,fe te y with
  |some ⟨.slice _ _ _ _,_,_⟩,some (.sl _ l _),some .jo=>some (false,l≠[])
  |some ⟨.slice _ _ _ _,_,_⟩,some .jo,some .jo=>some (true,True)
  |_,_,_=>none
 |_=>none
def afA(o:Oper):Bool:=
 match o.op with
 |.binOp .neq .. |.binOp .eql .. =>true
 |_=>false
def OK(te:cn)(o:Oper):Option (FuncId×cn):=
 match o.op with
 |.call {callee:=.value f,args,argTypes}=>match fe te f,kP te args.toList with
  |some (.fn g fs cs),some xs=>if(fs++xs++cs).all dY then some (g,bK (fJ tt fs argTypes) (fs++xs++cs))else none
  |_,_=>none
 |_=>none
def MN(te:cn)(tS:cp)(o:Oper):Option (FuncId×Nat×cn×cn):=
 match o.op with
 |.call {callee:=.value f,args,argTypes}=>match fe te f,kP te args.toList with
  |some (.fn g fs cs),some xs=>match Us (fs++xs++cs)with
   |some kp=>match xV kp (fJ tt fs argTypes) (fs++xs++cs),tS[kp]? with
    |some targs,some (.cells ts)=>if(fs++xs++cs).any isRef&&(eL ts).isEmpty then some (g,kp,targs,ts)else none
    |_,_=>none
   |none=>none
  |_,_=>none
 |_=>none
def MO(te:cn)(tS:cp)(o:Oper):Option (FuncId×Nat×cn×cn):=
 match o.op with
 |.call {callee:=.value f,args,argTypes}=>match fe te f,kP te args.toList with
  |some (.fn g fs cs),some xs=>match fs++xs++cs with
   |.ptr kp off::rest=>match tS[kp]? with
    |some (.cells ts)=>if rest.all dY&&ts.all jZ then some (g,kp,.ptr 0 off::bK (fJ tt fs argTypes).tail rest,ts)else none
    |_=>none
   |_=>none
  |_,_=>none
 |_=>none
def adA(md:Nat)(te:cn)(tS:cp)(o:Oper):Option (FuncId×Nat×cn×cn):=
 match md with
 |0=>MN tt te tS o
 |2=>MO tt te tS o
 |_=>none
def C6(md kp:Nat):cM:=
 match md with
 |2=>⟨some [kp],true⟩
 |_=>⟨none,true⟩
def JL(md:Nat)(v:TV)(cs:cn)(K:Prop):Prop:=
 match md with
 |2=>match Bf v&&cs.all jZ with
  |true=>K
  |false=>False
 |_=>K
def aeu(te:cn)(o:Oper):Option (FuncId×cn):=
 match o.op with
 |.call {callee:=.value f,args,argTypes:=_}=>match fe te f,kP te args.toList with
  |some (.fn g fs cs),some xs=>if(fs++xs++cs).any isRef||ty.h o==1 then some (g,fs++xs++cs)else none
  |_,_=>none
 |_=>none
def aci(md:Nat)(te:cn)(o:Oper):Option (cn×Func×List (Nat×LA)):=
 match md with
 |0=>match aeu ty te o with
  |some (g,A)=>match T.X g with
   |some (fn,j)=>some (A,fn,j)
   |none=>none
  |none=>none
 |_=>none
structure Inl where
 c:Func->List (Nat×LA)->cn->cp->(TV->cp->Prop)->Prop
 y:Nat->FuncId->cn->cn->cp->(cp->Prop)->Prop
 me:Option FuncId:=none
inductive Gd
 |no (b:Bool)
 |ask (d:Tmp) (b want:Bool)
 |unk
def gdT(ops:Array Oper)(te:cn)(o:Oper):Gd:=
 match o.guard with
 |none=>.no true
 |some (j,want)=>match(ops[j]?).bind (·.dst)with
  |some d=>match te[d]? with
   |some (.val (.bool b))=>.ask d b want
   |some .unk=>.unk
   |some (.val _)=>.no false
   |_=>.unk
  |none=>.no false
abbrev KO:=cn->cp->cX->Prop
def fT:cM:=⟨some [],false⟩
def nv(md n0 k:Nat)(tS:cp):Nat:=
 match md with
 |2=>n0+k
 |_=>tS.length
variable (inl:Inl)
def Uw(e nT:Nat)(v:TV)(K:TV->TB->Prop):Prop:=
 match v with
 |.sl t Jk .no=>K (.sl t Jk (.o5 nT)) (.own e t.size)
 |_=>False
def Ov:cn->Option (List cn)
 |[]=>some []
 |.agg l::r=>(Ov r).map (l::·)
 |_=>none
theorem F4:∀t:List cn,Ov (t.map .agg)=some t
 |[]=>rfl
 |l::t=>by rw[bg,Ov,F4 t];rfl
def acR(L:cx)(cs:cn)(K:List cn->Prop):Prop:=
 match Ov cs with
 |some t=>match Hs L t with
  |some tB=>K tB
  |none=>False
 |none=>False
def FY(md:Nat)(L:cx):cM:=
 match md with
 |2=>⟨some L,true⟩
 |_=>⟨none,true⟩
def HQ(md:Nat)(o:Oper)(te:cn)(tS:cp)(fs:cX)(K:KO):Prop:=
 match MP tt md te tS o with
 |some (g,L,targs,tP)=>match md==1,T.M g targs tP with
  |false,some (p,s)=>zF p (s.all λv cs facts=>impl facts (acR L cs λtB=>fV v λv=>fQ te o.dst v λte=>bN (xE L tB tS) λtS=>K te tS (fs++[FY md L])))
  |_,_=>False
 |none=>False
def HN(md:Nat)(o:Oper)(te:cn)(tS:cp)(fs:cX)(K:KO):Prop:=
 match adA tt md te tS o with
 |some (g,kp,targs,ts)=>match T.C g targs ts with
  |some (p,s)=>zF p (s.all λv cs facts=>impl facts (JL md v cs (fV v λv=>fQ te o.dst v λte=>cL cs λcs=>bN (tS.set kp (.cells cs)) λtS=>K te tS (fs++[C6 md kp]))))
  |none=>HQ tt T md o te tS fs K
 |none=>HQ tt T md o te tS fs K
def abV(md:Nat)(te:cn)(tS:cp)(o:Oper):Option (Nat×FuncId×cn×cn):=
 match md==1,o.op with
 |false,.call {callee:=.value f,args,argTypes:=_}=>match fe te f with
  |some (.nj k fn zk)=>match kP te args.toList,tS[k]? with
   |some xs,some .loop=>some (k,fn,zk,xs)
   |_,_=>none
  |_=>none
 |_,_=>none
def abW(o:Oper)(te:cn)(tS:cp)(fs:cX)(K:KO)(k:Nat)(jk:cp):Prop:=
 eD (okB (te.map (tw tS k)) (oA k 0 tS (jk.set k .loop))&&(cZ 0 tS).all (kU (oA k 0 tS (jk.set k .loop)))) (cL (te.map (tw tS k)) λte=>fQ te o.dst (.val (.bool true)) λte=>bN (oA k 0 tS (jk.set k .loop)) λtS=>K te tS (fs++[⟨none,true⟩])) False
def UU(md nT:Nat)(o:Oper)(te:cn)(tS:cp)(fs:cX)(K:KO):Prop:=
 match abV md te tS o with
 |some (k,fn,zk,xs)=>inl.y k fn zk xs tS (abW o te tS fs K k)
 |none=>match aci ty T md te o with
 |some (A,fn,j)=>inl.c fn j A tS λv bI=>fV v λv=>cL (fG tS te) λte=>fQ te o.dst v λte=>K te bI fs
 |none=>match ty.h o==1 with
 |true=>match md,OK tt te o with
  |0,none=>HN tt T 0 o te tS fs K
  |2,some (g,targs)=>match T.O g targs with
   |some (p,e,s)=>zF p (s.all λv _ facts=>impl facts (Uw e nT v λv b=>fV v λv=>fQ te o.dst v λte=>bN (nu tS nT b) λtS=>K te tS (fs++[⟨some [nT],true⟩])))
   |none=>False
  |_,_=>False
 |false=>match OK tt te o with
 |some (g,targs)=>match md==0,T.N g targs with
  |true,some (p,s)=>zF p (s.all λ_ cs facts=>impl facts (fQ te o.dst (.ptr tS.length 0) λte=>K te (tS++[.cells cs]) fs))
  |_,_=>match T.I g targs with
   |some (p,s)=>zF p (s.all λv _ facts=>impl facts (fV v λv=>fQ te o.dst v λte=>K te tS (fs++[fT])))
   |none=>False
 |none=>HN tt T md o te tS fs K
def mapM(md:Nat)(te:cn)(tS:cp)(o:Oper):Option (TV×cp×Prop):=
 match md with
 |0=>acf P tt te tS o tS.length
 |_=>none
def abm(md:Nat)(te:cn)(tS:cp)(o:Oper)(nT:Nat):Option (TV×cn×cp×cM×Prop):=
 match JC ty tt te tS o with
 |some (v,g,c)=>some (v,te,tS,⟨some [g],false⟩,c)
 |none=>if md=1 then none else match Uv ty tt te tS o with
  |some (g,bI)=>some (.unk,te,bI,⟨some [g],true⟩,True)
  |none=>if md=0 then(Uu ty tt te tS o nT).map λr=>(r.1,r.2.1,r.2.2.1,⟨none,true⟩,r.2.2.2)else none
def YW(md n0 k:Nat)(o:Oper)(te:cn)(tS:cp)(fs:cX)(K:KO):Prop:=
 match zA tS (nv md n0 k tS)with
 |false=>False
 |true=>match adN o with
  |true=>UU ty tt T inl md (nv md n0 k tS) o te tS fs K
  |false=>match abm ty tt md te tS o (nv md n0 k tS)with
   |some (v,bO,bI,f,c)=>c/\fV v λv=>cL bO λte=>fQ te o.dst v λte=>bN bI λtS=>K te tS (fs++[f])
   |none=>match mapM P tt md te tS o with
   |some (v,bI,c)=>c/\fV v λv=>fQ te o.dst v λte=>bN bI λtS=>K te tS (fs++[⟨none,true⟩])
   |none=>match Dq te o with
   |some (v,c)=>c/\fQ te o.dst v λte=>K te tS (fs++[fT])
   |none=>match afA o,Ui P te o,ace ty te o with
    |true,some b,_=>fQ te o.dst (.val (.bool b)) λte=>K te tS (fs++[fT])
    |true,none,some (b,c)=>c/\fQ te o.dst (.val (.bool b)) λte=>K te tS (fs++[fT])
    |_,_,_=>match md with
     |1=>match bJ P ty tt te tS o with
      |some q=>match zZ o with
       |true=>q.2/\fV q.1 λv=>fQ te o.dst v λte=>K te tS (fs++[fT])
       |false=>fV q.1 λv=>fQ te o.dst v λte=>K te tS (fs++[fT])
      |none=>False
     |_=>match stepT P ty tt te tS o (nv md n0 k tS)with
      |some q=>match zZ o with
       |true=>q.c/\fV q.v λv=>cL q.te λte=>fQ te o.dst v λte=>bN q.tS λtS=>K te tS (fs++[⟨some q.Fg,mO o⟩])
       |false=>fV q.v λv=>fQ q.te o.dst v λte=>bN q.tS λtS=>K te tS (fs++[⟨some q.Fg,mO o⟩])
      |none=>False
def YR(md nT:Nat)(o:Oper)(te:cn)(tS:cp)(fs:cX)(K:KO):acU->Prop
 |.ix v c=>c/\fQ te o.dst v λte=>K te tS (fs++[fT])
 |.ld0 id off t x=>eD (off==0) (fQ te o.dst (.sl t x .no) λte=>K te tS (fs++[⟨some [id],false⟩])) False
 |.ld id off u c l b=>match b with
  |true=>∃(x:List u.den)(g:Nat),(c::l)[off]? =some (.sl u x (.o5 g))/\fQ te o.dst (.sl u x (.BM g)) λte=>K te tS (fs++[⟨some [id],false⟩])
  |false=>∃x:List u.den,(c::l)[off]? =some (.sl u x .no)/\fQ te o.dst (.sl u x .no) λte=>K te tS (fs++[⟨some [id],false⟩])
 |.st id off c l u y g=>match md==1 with
  |true=>False
  |false=>∃j,off=j+1/\j<l.length/\fQ te o.dst .unk λte=>bN (tS.set id (.cells (c::ag8 l j (.sl u y (.o5 g))))) λtS=>K te tS (fs++[⟨some [id],true⟩])
 |.ap e s g k l c=>match md==1,pF e s 0 tS with
  |false,(lo,n)=>(lo<=g/\g<lo+n)/\c/\cL (fG tS te) λte=>fQ te o.dst (.sl k l (.BM g)) λte=>bN (HI tS g tS) λtS=>K te tS (fs++[⟨some (nT::List.range' lo n),true⟩])
  |_,_=>False
def QA(md n0 k:Nat)(o:Oper)(te:cn)(tS:cp)(fs:cX)(K:KO):Prop:=
 match BS ty tt te tS o with
 |some q=>match zA tS (nv md n0 k tS)with
  |true=>YR md (nv md n0 k tS) o te tS fs K q
  |false=>False
 |none=>match acS ty te o with
 |some (t,n,c)=>splitK n (λj=>Fa te t (.val (.int .i64 (j:Int))) λte=>YW P ty tt T inl md n0 k o te tS fs K) c 0
 |none=>YW P ty tt T inl md n0 k o te tS fs K
def opK(md n0 k:Nat)(o:Oper)(te:cn)(tS:cp)(fs:cX)(K:KO):Prop:=
 match md,ty.h o with
 |0,2=>match Ml ty te tS o with
  |some (te,tS)=>cL te λte=>bN tS λtS=>QA P ty tt T inl md n0 k o te tS fs K
  |none=>False
 |_,_=>QA P ty tt T inl md n0 k o te tS fs K
def Ow(o:Oper)(te:cn)(tS:cp)(fs:cX)(K:KO):Prop:=fQ te o.dst Qx λte=>K te tS (fs++[fT])
def pE(md n0:Nat)(ops:Array Oper):List Oper->Nat->cn->cp->cX->KO->Prop
 |[],_,te,tS,fs,K=>K te tS fs
 |o::r,k,te,tS,fs,K=>match gdT ops te o with
  |.no true=>opK P ty tt T inl md n0 k o te tS fs λte tS fs=>pE md n0 ops r (k+1) te tS fs K
  |.no false=>Ow o te tS fs λte tS fs=>pE md n0 ops r (k+1) te tS fs K
  |.ask d b want=>match want with
   |true=>eD b (Fa te d (.val (.bool true)) λte=>opK P ty tt T inl md n0 k o te tS fs λte tS fs=>pE md n0 ops r (k+1) te tS fs K) (Fa te d (.val (.bool false)) λte=>Ow o te tS fs λte tS fs=>pE md n0 ops r (k+1) te tS fs K)
   |false=>eD b (Fa te d (.val (.bool true)) λte=>Ow o te tS fs λte tS fs=>pE md n0 ops r (k+1) te tS fs K) (Fa te d (.val (.bool false)) λte=>opK P ty tt T inl md n0 k o te tS fs λte tS fs=>pE md n0 ops r (k+1) te tS fs K)
  |.unk=>False
def ah9(d:Option Tmp):Nat:=
 match d with
 |some d=>2^d
 |none=>0
def adD(o:Oper):Nat:=o.op.operands.foldl (λa x=>match x with|.tmp t=>a|||2^t|_=>a) 0
def defs:Code->Nat
 |.region _ ops _=>ops.foldl (λa o=>a|||ah9 o.dst) 0
 |.seq a b|.cond _ a b=>defs a|||defs b
 |.block _ c|.loop c|.scope c=>defs c
 |_=>0
def mP:Code->Nat
 |.region _ ops _=>ops.foldl (λa o=>a|||adD o) 0
 |.seq a b=>mP a|||mP b
 |.cond x a b=>(match x with|.tmp t=>2^t|_=>0)|||mP a|||mP b
 |.block _ c|.loop c|.scope c=>mP c
 |.rangeFunc x _ a b=>(match x with|.tmp t=>2^t|_=>0)|||mP a|||mP b
 |_=>0
def cnt:Code->Nat
 |.seq a b=>1+cnt a+cnt b
 |.cond _ a b=>cnt a+cnt b
 |.block _ c|.scope c=>cnt c
 |.loop c=>1+cnt c
 |_=>0
def nH(sl:List (Nat×TV))(keep:Nat):Nat->cn->cn
 |_,[]=>[]
 |i,v::l=>(match sl.find? λp=>p.1==i with
  |some p=>p.2
  |none=>match keep.testBit i with
   |true=>v
   |false=>.unk)::nH sl keep (i+1) l
def vM(sl:List (Nat×TV)):Nat->cn->Option (List Prop)
 |_,[]=>some []
 |i,v::l=>match sl.find? λp=>p.1==i with
  |some p=>match leT v p.2,vM sl (i+1) l with
   |some x,some y=>some (x++y)
   |_,_=>none
  |none=>vM sl (i+1) l
abbrev MpL:=List (Nat×(Σkt:TT,List kt.den))
def tj(pl:List (Nat×cn))(mp:MpL):Nat->cp->cp
 |_,[]=>[]
 |i,.cells c::l=>(match pl.find? λp=>p.1==i with
  |some p=>.cells p.2
  |none=>.cells c)::tj pl mp (i+1) l
 |i,.map kt c::l=>(match mp.find? λp=>p.1==i with
  |some (_,⟨kt',c'⟩)=>.map kt' c'
  |none=>.map kt c)::tj pl mp (i+1) l
 |i,.rows t e c z::l=>(match mp.find? λp=>p.1==i with
  |some (_,⟨t',c'⟩)=>.rows t' e c' z
  |none=>.rows t e c z)::tj pl mp (i+1) l
 |i,.own e s::l=>.own e s::tj pl mp (i+1) l
 |i,.none::l=>.none::tj pl mp (i+1) l
 |i,.loop::l=>.loop::tj pl mp (i+1) l
def iV(pl:List (Nat×cn))(mp:MpL):Nat->cp->Option (List Prop)
 |_,[]=>some []
 |i,.cells c::l=>match pl.find? λp=>p.1==i with
  |some p=>match Hu c p.2,iV pl mp (i+1) l with
   |some x,some y=>some (x++y)
   |_,_=>none
  |none=>iV pl mp (i+1) l
 |i,.map kt c::l=>match mp.find? λp=>p.1==i with
  |some (_,⟨kt',c'⟩)=>if h:kt=kt' then match iV pl mp (i+1) l with
   |some y=>some ((h▸c=c')::y)
   |none=>none else none
  |none=>iV pl mp (i+1) l
 |i,.rows t _ c _::l=>match mp.find? λp=>p.1==i with
  |some (_,⟨t',c'⟩)=>if h:t=t' then match iV pl mp (i+1) l with
   |some y=>some ((h▸c=c')::y)
   |none=>none else none
  |none=>iV pl mp (i+1) l
 |i,.own _ _::l=>iV pl mp (i+1) l
 |i,.none::l=>iV pl mp (i+1) l
 |i,.loop::l=>iV pl mp (i+1) l
def xR(b:Bd)(tS:cp):cp:=tj b.pl b.mp 0 tS++b.own.map λp=>.own p.1 p.2
abbrev KC:=DX->cn->cp->Prop
def abN(J:List (Nat×LA))(i:Nat)(te:cn)(tS:cp):Option LA:=
 match J.find? λp=>p.1==i with
 |some p=>some (p.2.at te tS)
 |none=>none
def VE(B:cx)(b:Bd)(keep:Nat)(te:cn)(tS:cp)(K:Prop):Prop:=
 eD (okB (nH b.sl keep 0 te) (xR b tS)&&B.all (kU (xR b tS))) (ask (vM b.sl 0 te) (ask (iV b.pl b.mp 0 tS) (zF b.kO K))) False
def UW(B:cx)(lG:cn)(gZ:cp)(b:Bd)(te:cn)(tS:cp)(K:Prop):Prop:=
 eD (okB lG gZ&&B.all (kU gZ)) (ask (Hu te lG) (ask (qg tS gZ) (zF b.kO K))) False
def unK(f:cn->cp->(cn->cp->Prop)->Prop)(K:cn->cp->Prop):Nat->cn->cp->Prop
 |0,te,tS=>K te tS
 |n+1,te,tS=>f te tS (unK f K n)
def ML(P:Program):Code->Option (Array Oper)
 |.region _ ops true=>if vK P ops then none else some ops
 |_=>none
def Vr(keep:Nat)(ops:Array Oper):Bool:=ops.toList.all λo=>match o.dst with
 |some d=>!keep.testBit d
 |none=>true
def Uq(x:Operand)(te:cn)(v:Bool)(K:cn->Prop):Prop:=
 match x with
 |.tmp t=>Fa te t (.val (.bool v)) K
 |_=>K te
def Vp(tS:cp)(k:Nat):Bool:=
 match tS[k]? with
 |some .loop=>true
 |_=>false
variable (B:cx) (J:List (Nat×LA))
def xu:Code->Nat->Nat->cn->cp->KC->Prop
 |.skip,_,_,te,tS,K|.label _,_,_,te,tS,K=>K .normal te tS
 |.exit id,_,_,te,tS,K=>K (.exit id) te tS
 |.ret,_,_,te,tS,K=>K .ret te tS
 |.scope c,i,lv,te,tS,K=>xu c i lv te tS K
 |.block id c,i,lv,te,tS,K=>xu c i lv te tS λe te tS=>match e with
  |.exit iz=>if iz=id then K .normal te tS else K (.exit iz) te tS
  |.normal=>K .normal te tS
  |.ret=>K .ret te tS
 |.cond x a b,i,lv,te,tS,K=>match fe te x with
  |some (.val (.bool t))=>eD t (Uq x te true λte=>xu a i lv te tS K) (Uq x te false λte=>xu b (i+cnt a) lv te tS K)
  |_=>False
 |.seq a b,i,lv,te,tS,K=>match abN J i te tS with
  |some la=>match ML P a with
   |some ops=>eD (kY ops (Region.before ops)&&Vr ((lv|||mP b)&&&(2^400-1-(defs a))) ops) (pE P ty tt T inl 1 0 ops ops.toList 0 te tS [] λbO _ _=>la.some λbd=>ask (vM bd.sl 0 bO) (zF bd.kO True)) False/\
    la.all λbd=>impl bd.kO (cL (nH bd.sl ((lv|||mP b)&&&(2^400-1-(defs a))) 0 te) λlG=>xu b (i+1+cnt a) lv lG tS K)
   |none=>xu a (i+1) (lv|||mP b) te tS (λe bO bI=>match e with
    |.normal=>la.some λbd=>UW B (nH bd.sl ((lv|||mP b)&&&(2^400-1-(defs a))) 0 te) (xR bd tS) bd bO bI True
    |.exit id=>K (.exit id) bO bI
    |.ret=>K .ret bO bI)/\la.all λbd=>impl bd.kO (cL (nH bd.sl ((lv|||mP b)&&&(2^400-1-(defs a))) 0 te) λlG=>bN (xR bd tS) λgZ=>xu b (i+1+cnt a) lv lG gZ K)
  |none=>xu a (i+1) (lv|||mP b) te tS λe te tS=>match e with
   |.normal=>xu b (i+1+cnt a) lv te tS K
   |.exit id=>K (.exit id) te tS
   |.ret=>K .ret te tS
 |.loop c,i,lv,te,tS,K=>match abN J i te tS with
  |some la=>unK (λte tS K'=>xu c (i+1) (lv|||mP c) te tS λe te tS=>match e with
    |.normal=>K' te tS
    |.exit id=>K (.exit id) te tS
    |.ret=>K .ret te tS) (λte tS=>match la.inner.at te tS with
     |.un n=>unK (λte tS K'=>xu c (i+1) (lv|||mP c) te tS λe te tS=>match e with
      |.normal=>K' te tS
      |.exit id=>K (.exit id) te tS
      |.ret=>K .ret te tS) (λ_ _=>False) (min n 1000) te tS
     |la=>(la.some λbd=>VE B bd ((lv|||mP c)&&&(2^400-1-(defs c))) te tS (bd.m<1000000))/\
   la.all λbd=>impl bd.kO (cL (nH bd.sl ((lv|||mP c)&&&(2^400-1-(defs c))) 0 te) λlG=>bN (xR bd tS) λgZ=>xu c (i+1) (lv|||mP c) lG gZ λe bO bI=>match e with
    |.normal=>la.some λbd'=>UW B (nH bd'.sl ((lv|||mP c)&&&(2^400-1-(defs c))) 0 te) (xR bd' tS) bd' bO bI (bd'.m<bd.m)
    |.exit id=>K (.exit id) bO bI
    |.ret=>K .ret bO bI)) (min la.abl 1000) te tS
  |none=>False
 |.region _ ops draw,_,_,te,tS,K=>match draw with
  |true=>match vK P ops with
   |true=>eD (kY ops (Region.before ops)) (bN (tS++List.replicate ops.size .none) λmm=>pE P ty tt T inl 2 tS.length ops ops.toList 0 te mm [] λte tS fs=>eD (tc (Region.before ops) fs) (bN (oD tS) λtS=>K .normal te tS) False) False
   |false=>eD (kY ops (Region.before ops)) (pE P ty tt T inl 1 0 ops ops.toList 0 te tS [] λte _ _=>K .normal te tS) False
  |false=>pE P ty tt T inl 0 0 ops ops.toList 0 te tS [] λte tS _=>bN (oD tS) λtS=>K .normal te tS
 |.rangeFunc f _ _ _,_,_,te,tS,K=>match inl.me,fe te f with
  |some me,some (.fn g fs cs)=>match T.X g with
   |some (fn,j)=>inl.c fn j (fs++[.nj tS.length me (fG tS te)]++cs) (tS++[.loop]) λ_ bI=>eD (Vp bI tS.length&&!(eL (fG tS te)++nE bI).contains tS.length) (cL (fG tS te) λte=>bN (bI.set tS.length .none) λtS=>K .normal te tS) False
   |none=>False
  |_,_=>False
 |_,_,_,_,_,_=>False
def acJ(ty:fo)(rs:List ResultVar)(kQ:List cy)(s:sX)(te:cn)(tS:cp):Prop:=
 match wB ty te tS rs with
 |some vs=>cL (xI tS vs) λvs=>eD (vs.all dY&&(refs (jV (bK kQ vs))).isEmpty) (s.some λv _ facts=>ask (X9 (jV (bK kQ vs)) v) (cR facts)) False
 |none=>False
def acK(ty:fo)(rs:List ResultVar)(kQ ni:List cy)(s:sX)(te:cn)(tS:cp):Prop:=
 match wB ty te tS rs,tS with
 |some vs,.cells ts::_=>eD (vs.all dY&&(refs (jV (bK kQ vs))).isEmpty&&(ts.all dY&&(eL (bK ni ts)).isEmpty)) (s.some λv cs facts=>ask (X9 (jV (bK kQ vs)) v) (ask (Qv (bK ni ts) cs) (cR facts))) False
 |_,_=>False
def ah2(ty:fo)(rs:List ResultVar)(kQ:List cy)(n:Nat)(s:sX)(te:cn)(tS:cp):Prop:=
 match wB ty te tS rs,UC n tS (List.range n)with
 |some vs,some t=>eD (vs.all dY&&Bf (jV (bK kQ vs))) (s.some λv cs facts=>ask (X9 (jV (bK kQ vs)) v) (ask (Qv (t.map .agg) cs) (cR facts))) False
 |_,_=>False
def Uy(ni:List cy)(ts:cn):cn:=
 match ni,ts with
 |[],a::l=>match qn a with
  |true=>jX none a::bK [] l
  |false=>bK [] (a::l)
 |ni,ts=>bK ni ts
def acI(ty:fo)(rs:List ResultVar)(ni:List cy)(s:sX)(te:cn)(tS:cp):Prop:=
 match wB ty te tS rs,tS with
 |some [.ptr 0 0],.cells ts::_=>eD (ts.all dY&&(eL (bK ni ts)).isEmpty) (s.some λ_ cs facts=>ask (Qv (Uy ni ts) cs) (cR facts)) False
 |_,_=>False
def ah1(ty:fo)(rs:List ResultVar)(e:TypeId)(s:sX)(te:cn)(tS:cp):Prop:=
 match wB ty te tS rs with
 |some [.sl t Jk (.o5 g)]=>match tS[g]? with
  |some (.own e' n)=>eD (e'==e&&n==t.size) (s.some λv _ facts=>ask (X9 (.sl t Jk .no) v) (cR facts)) False
  |_=>False
 |_=>False
def Mx(F:cn->cp->Prop)(e:DX)(te:cn)(tS:cp):Prop:=
 match e with
 |.exit _=>False
 |.normal=>F te tS
 |.ret=>F te tS
end
def uJ(rs:List ResultVar):Nat:=rs.foldl (λa x=>match x with|.tmp t=>a|||2^t|.cell t _=>a|||2^t) 0
def Mo(n:Nat)(l:cn):cn:=l++List.replicate (n-l.length) .unk
def pI(f:Func):Code:=f.body.getD .skip
def acH(ty:fo)(rs:List ResultVar)(K:TV->cp->Prop)(te:cn)(tS:cp):Prop:=
 match wB ty te tS rs with
 |some vs=>K (jV vs) tS
 |none=>False
def Qz(n:Nat)(tS:cp):cp:=tS++List.replicate (n-tS.length) .none
def acN(k:Nat)(tS:cp)(K:cp->Prop):Prop:=
 match tS[k]? with
 |some .none=>K tS
 |_=>False
def abX(P:Program)(ty:fo)(tt:TypeId->cy)(T:iO)(inl:Inl)(k:Nat)(fn:FuncId)(zk xs:cn)(tS:cp)(K:cp->Prop):Prop:=
 match T.me,T.yp with
 |some me,(ps,nL,body)=>eD (me==fn&&xs.length==ps.length&&!(eL (nD zk (ps.zip xs))++nE tS).contains k) (cL (nD zk (ps.zip xs)) λte=>bN (tS.set k .none) λmm=>xu P ty tt T inl (ny k tS) T.Y nL 0 (mP body) te mm λe te gZ=>match e with
  |.normal=>xu P ty tt T inl (ny k tS) T.Y body (cnt nL) 0 te gZ λe _ jk=>match e with
   |.normal=>acN k (Qz tS.length jk) K
   |_=>False
  |_=>False) False
 |none,_=>False
def QE(P:Program)(ty:fo)(tt:TypeId->cy)(T:iO):Nat->Inl
 |0=>⟨λ_ _ _ _ _=>False,λ_ _ _ _ _ _=>False,none⟩
 |d+1=>⟨λfn j A tS K=>cL (Mo fn.ntmps A) λte=>xu P ty tt T (QE P ty tt T d) (cZ 0 tS) j (pI fn) 0 (uJ fn.results.toList) te tS (Mx (acH ty fn.results.toList K)),abX P ty tt T (QE P ty tt T d),none⟩
def QD(P:Program)(ty:fo)(tt:TypeId->cy)(T:iO)(d:Nat):Inl:=⟨(QE P ty tt T d).c,(QE P ty tt T d).y,T.me⟩
end Go.Tv
