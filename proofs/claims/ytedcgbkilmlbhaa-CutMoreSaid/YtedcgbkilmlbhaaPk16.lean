import Derived.Test.YtedcgbkilmlbhaaPk15
set_option maxRecDepth 100000
namespace Go.Tv
open Go Go.Di Go.Proofs
def eg(n w:Int):Int:=if n=1\/n=3 then 1-w else w
def mu1(U:List Int)(a b:Nat)(s:aG):List Int:=(U.set (2*a+(eg s.1 1).toNat) 1).set (2*b+(eg s.2.1 0).toNat) 1
def Ma(l:List PD)(U:List Int)(a b k:Nat):List Int:=((bS (l.getD a dP) (l.getD b dP)).take k).foldl (λU s=>mu1 U a b s) U
def Bl(l:List PD)(U:List Int)(a b:Nat):List Int:=(List.range b).foldl (λU b=>if a=b then U else Ma l U a b (bS (l.getD a dP) (l.getD b dP)).length) U
def pF(l:List PD)(a:Nat):List Int:=(List.range a).foldl (λU a=>Bl l U a l.length) (List.replicate (2*l.length) 0)
def yj(U:List Int)(i:Nat):List (List Int):=((List.range i).filter λj=>decide (U.getD j 0=0)).map λ(j:Nat)=>[((j/2:Nat):Int),((j % 2:Nat):Int)]
def Mj(l:List PD):List (List Int):=if jb l=0 then yj (pF l l.length) (2*l.length)else[]
section
variable {l:List PD} {U:List Int} {a b k:Nat}
theorem Xj:Bl l (pF l a) a l.length=pF l (a+1):=by rw[pF,pF,eR,jY];rfl
theorem aat(h:a=k):Bl l U a k=Bl l U a (k+1):=by rw[Bl,Bl,eR,jY,gp,List.foldl_nil,if_pos h]
theorem aev(h:a≠k):Ma l (Bl l U a k) a k (bS (l.getD a dP) (l.getD k dP)).length=Bl l U a (k+1):=by rw[Bl,Bl,eR,jY,gp,List.foldl_nil,if_neg h]
theorem Xh(d:aG)(h:k<(bS (l.getD a dP) (l.getD b dP)).length):mu1 (Ma l U a b k) a b ((bS (l.getD a dP) (l.getD b dP)).getD k d)=Ma l U a b (k+1):=by rw[Ma,Ma,yM d h,jY];rfl
theorem abd(h:U.getD k 0=0):yj U k++[[((k/2:Nat):Int),((k % 2:Nat):Int)]]=yj U (k+1):=by rw[yj,yj,eR,mC,dY,List.filter_cons,if_pos (eF h)];rfl
theorem aeU(h:¬U.getD k 0=0):yj U k=yj U (k+1):=by rw[yj,yj,eR,mC,dY,List.filter_cons,if_neg (by simp only[cq];exact h)];simp
theorem Je:(yj U k).length<=k:=by rw[yj,List.length_map];refine bD (vP _ _) ?_;simp
end
def Mm(l:List PD)(g:Nat->Bool)(U:List Int):Prop:=U.length=2*l.length/\∀j,j<8->(g j=false↔U.getD j 0=0)
abbrev Zj(g:Nat->Bool):List TV:=[iD (g 0),iD (g 1),iD (g 2),iD (g 3),iD (g 4),iD (g 5),iD (g 6),iD (g 7)]
section
variable {l:List PD} {g:Nat->Bool} {U:List Int} {m M k:Nat} {n:Int}
def up(g:Nat->Bool)(M:Nat):Nat->Bool:=λj=>decide (j=M)||g j
theorem oP(h:Mm l g U)(hM:m=M)(hl:M<2*l.length):Mm l (up g M) (U.set m 1):=by
 subst hM;refine⟨by rw[List.length_set];exact h.1,λj hj=>?_⟩;have:=h.2 j hj;unfold up;by_cases e:j=m;· subst e;rw[aP,List.getElem?_set_self (by rw[h.1];exact hl)];simp
 rw[aP,List.getElem?_set_ne (λh=>e h.symm),<-aP];simp[e,this]
theorem Xi:Mm l (λ_=>false) (pF l 0):=by refine⟨List.length_replicate,λj _=>?_⟩;show _↔(List.replicate (2*l.length) (0:Int)).getD j 0=0;rw[aP,nK];split<;>simp
theorem Ns(h0:0<=n)(h1:n<=3):HZ n 1=eg n 0/\(1-HZ n 1=eg n 1)/\(eg n 0=0\/eg n 0=1):=by
 have:n=0\/n=1\/n=2\/n=3:=by omega
 rcases this with rfl|rfl|rfl|rfl<;>decide
theorem H8{d:fB.den}(h:k<l.length):(l.map aV).getD k d=aV (l.getD k dP):=by rw[aP,cM,bP h,aP,bP h];rfl
theorem br4{x:Nat}{A B C D:Prop}(h:x<4)(a:x=0->A)(b:x=1->B)(c:x=2->C)(d:x=3->D):((x:Int)=0->A)/\(¬(x:Int)=0->((x:Int)=1->B)/\(¬(x:Int)=1->((x:Int)=2->C)/\(¬(x:Int)=2->((x:Int)=3->D)/\(¬(x:Int)=3->False)))):=
 ⟨λe=>a (by omega),λe0=>⟨λe=>b (by omega),λe1=>⟨λe=>c (by omega),λe2=>⟨λe=>d (by omega),λe3=>by omega⟩⟩⟩⟩
theorem SR{y:Int}{A B:Prop}(h:y=0\/y=1)(a:y=0->A)(b:y=1->B):(y=0->A)/\(¬y=0->(y=1->B)/\(¬y=1->False)):=⟨a,λe=>⟨b,λd=>h.elim e d⟩⟩
end
noncomputable def G17:eZ:=((T0.dQ 43 λa=>dS (YP a)).dQ 48 λa=>dS (T9 a)).dQ 33 S60
def adE:List TV->Dn
 |[.sl (.pair (.sl (.int .i64)) (.pair (.sl (.int .i64)) (.pair (.int .i64) (.pair (.sl (.int .i64)) .unit)))) l .no]=>some ([l.length<=1000,∀p∈l,gv p],.ex (List (List Int)) λx=>.ex Int λe=>.res (.tup [.sl bq x .no,bp e]) [] [x=Mj l,e=jb l],
  [(6,.ex (List fB.den) λW=>.st {sl:=[(6,.sl fB W .no)],cO:=[W=l.map aV]}),
   (22,.dep λte _=>fZ te 7 λi=>fZ te 8 λk=>.ex (List aG) λs=>.st {sl:=[(42,.sl cz s .no),(43,bp s.length),(44,bp 0)],cO:=[s=bS (l.getD i dP) (l.getD k dP)]}),
   (9,.ex Nat λi=>.ex (Nat->Bool) λg=>.st {sl:=[(23,bp i)],pl:=[(0,Zj g)],cO:=[i<=l.length,Mm l g (pF l i)],m:=l.length-i}),
   (15,.dep λte _=>fZ te 7 λi=>.ex Nat λk=>.ex (Nat->Bool) λg=>.st {sl:=[(28,bp k)],pl:=[(0,Zj g)],cO:=[k<=l.length,Mm l g (Bl l (pF l i) i k)],m:=l.length-k}),
   (23,.dep λte _=>fZ te 7 λi=>fZ te 8 λk=>.ex Nat λj=>.ex (Nat->Bool) λg=>.st {sl:=[(44,bp j)],pl:=[(0,Zj g)],cO:=[j<=(bS (l.getD i dP) (l.getD k dP)).length,Mm l g (Ma l (Bl l (pF l i) i k) i k j)],m:=(bS (l.getD i dP) (l.getD k dP)).length-j}),
   (28,.dep λte _=>fZ te 7 λi=>fZ te 8 λk=>fZ te 44 λj=>.ex (Nat->Bool) λg=>.st {sl:=[],pl:=[(0,Zj g)],cO:=[Mm l g ((Ma l (Bl l (pF l i) i k) i k j).set (2*i+(eg ((bS (l.getD i dP) (l.getD k dP)).getD j (0,0,0,())).1 1).toNat) 1)]}),
   (32,.dep λ_ tS=>.ex Nat λi=>.st {sl:=[(11,.sl bq (yj (pF l l.length) (2*i)) (.je tS.length)),(66,bp i)],own:=[(22,1)],cO:=[i<=l.length],m:=l.length-i}),
   (38,.dep λte tS=>fZ te 12 λi=>.ex Nat λk=>.st {sl:=[(11,.sl bq (yj (pF l l.length) (2*i+k)) (.je (tS.length-1))),(69,bp k)],cO:=[k<=2],m:=2-k}),
   (43,.dep λte _=>fZ te 12 λi=>fZ te 13 λk=>.ex Bool λb=>.st {sl:=[(77,iD b)],cO:=[b=true↔(pF l l.length).getD (2*i+k) 0=0]})])
 |_=>none
def dU.q1 (p0:cS.den):Prop:=p0=p0
def dU.q2 (p0:List aG)(p1:Nat)(p2:Prop):Prop:=dU.q1 (p0.getD p1 (0,0,0,())).fst/\dU.q1 (p0.getD p1 (0,0,0,())).snd.fst/\dU.q1 (p0.getD p1 (0,0,0,())).snd.snd.fst/\p2
def dU.q3 (p0:List fB.den)(p1 p2:Nat)(p3:List aG)(p4:Nat)(p5:List (aU).den)(p6 p7 p8 p9 HA Qw S5 Yx:Bool):Prop:=True/\∃(a:Nat->Bool),mU bq.den/\(0:Int)=0/\p0=p0/\(↑p1:Int)=(↑p1:Int)/\(↑p2:Int)=(↑p2:Int)/\(↑p0.length:Int)=(↑p0.length:Int)/\(↑p1:Int)=(↑p1:Int)/\true=true/\(↑p1:Int)=(↑p1:Int)/\p0=p0/\(↑p0.length:Int)=(↑p0.length:Int)/\(↑p2:Int)=(↑p2:Int)/\true=true/\(↑p2:Int)=(↑p2:Int)/\(↑p1:Int)=(↑p1:Int)/\(↑p2:Int)=(↑p2:Int)/\false=false/\p3=p3/\(↑p3.length:Int)=(↑p3.length:Int)/\(↑p4:Int)=(↑p4:Int)/\true=true/\p3=p3/\p4=p4/\0=0/\dU.q2 p3 p4 (p6=a 0/\p7=a 1/\p8=a 2/\p9=a 3/\HA=a 4/\Qw=a 5/\S5=a 6/\Yx=a 7/\dU.q2 p3 p4 (Mm p5 a ((Ma p5 (Bl p5 (pF p5 p1) p1 p2) p1 p2 p4).set (2*p1+(eg ((bS (p5.getD p1 dP) (p5.getD p2 dP)).getD p4 (0,0,0,())).1 (1:Int)).toNat) (1:Int))/\True))
def dU.q4 (p0:Nat)(p1:List fB.den)(p2 p3:Nat)(p4:List aG)(p5:List (aU).den)(p6:Nat->Bool)(p7 p8 p9 HA Qw S5 Yx p14:Bool):Prop:=True/\dw ((↑p0:Int)+1)/\∃(a:Nat),∃(x:Nat->Bool),mU bq.den/\(0:Int)=0/\p1=p1/\(↑p2:Int)=(↑p2:Int)/\(↑p3:Int)=(↑p3:Int)/\(↑p1.length:Int)=(↑p1.length:Int)/\(↑p2:Int)=(↑p2:Int)/\true=true/\(↑p2:Int)=(↑p2:Int)/\p1=p1/\(↑p1.length:Int)=(↑p1.length:Int)/\(↑p3:Int)=(↑p3:Int)/\true=true/\(↑p3:Int)=(↑p3:Int)/\(↑p2:Int)=(↑p2:Int)/\(↑p3:Int)=(↑p3:Int)/\false=false/\p4=p4/\(↑p4.length:Int)=(↑p4.length:Int)/\(↑p0:Int)+1=(↑a:Int)/\p7=x 0/\p8=x 1/\p9=x 2/\HA=x 3/\Qw=x 4/\S5=x 5/\Yx=x 6/\p14=x 7/\a<=(bS (p5.getD p2 dP) (p5.getD p3 dP)).length/\Mm p5 x (Ma p5 (Bl p5 (pF p5 p2) p2 p3) p2 p3 a)/\((bS (p5.getD p2 dP) (p5.getD p3 dP)).length-a)<((bS (p5.getD p2 dP) (p5.getD p3 dP)).length-p0)
def dU.q5 (p0:List (aU).den)(p1 p2:Nat)(p3:List fB.den)(p4:Nat->Bool)(p5:Bool):Prop:=True/\∃(a:Bool),mU bq.den/\(0:Int)=0/\yj (pF p0 p0.length) (2*p1+p2)=yj (pF p0 p0.length) (2*p1+p2)/\(↑p1:Int)=(↑p1:Int)/\(↑p2:Int)=(↑p2:Int)/\(↑p3.length:Int)=(↑p3.length:Int)/\(↑p1:Int)=(↑p1:Int)/\true=true/\(↑p1:Int)=(↑p1:Int)/\(↑p2:Int)=(↑p2:Int)/\true=true/\(↑p2:Int)=(↑p2:Int)/\(!p5)=a/\p4 0=p4 0/\p4 1=p4 1/\p4 2=p4 2/\p4 3=p4 3/\p4 4=p4 4/\p4 5=p4 5/\p4 6=p4 6/\p4 7=p4 7/\(a=true↔(pF p0 p0.length).getD (2*p1+p2) (0:Int)=0)/\True
def dU.q6 (p0:List fB.den)(p1:Nat)(p2:Prop):Prop:=(p0.getD p1 ([],[],0,[],[],[],[],[],[],[],[],[],())).2.2.2.2.1=(p0.getD p1 ([],[],0,[],[],[],[],[],[],[],[],[],())).1/\(p0.getD p1 ([],[],0,[],[],[],[],[],[],[],[],[],())).2.2.2.2.2.1=(p0.getD p1 ([],[],0,[],[],[],[],[],[],[],[],[],())).2.1/\(p0.getD p1 ([],[],0,[],[],[],[],[],[],[],[],[],())).2.2.2.2.2.2.1=List.reverse (p0.getD p1 ([],[],0,[],[],[],[],[],[],[],[],[],())).2.1/\(p0.getD p1 ([],[],0,[],[],[],[],[],[],[],[],[],())).2.2.2.2.2.2.2.1=List.reverse (p0.getD p1 ([],[],0,[],[],[],[],[],[],[],[],[],())).1/\(p0.getD p1 ([],[],0,[],[],[],[],[],[],[],[],[],())).2.2.2.2.2.2.2.2.1=List.reverse (p0.getD p1 ([],[],0,[],[],[],[],[],[],[],[],[],())).1/\(p0.getD p1 ([],[],0,[],[],[],[],[],[],[],[],[],())).2.2.2.2.2.2.2.2.2.1=List.reverse (p0.getD p1 ([],[],0,[],[],[],[],[],[],[],[],[],())).2.1/\(p0.getD p1 ([],[],0,[],[],[],[],[],[],[],[],[],())).2.2.2.2.2.2.2.2.2.2.1=(p0.getD p1 ([],[],0,[],[],[],[],[],[],[],[],[],())).2.1/\(p0.getD p1 ([],[],0,[],[],[],[],[],[],[],[],[],())).2.2.2.2.2.2.2.2.2.2.2.1=(p0.getD p1 ([],[],0,[],[],[],[],[],[],[],[],[],())).1/\p2
def dU.q7 (p0:Nat->Bool)(p1:List (aU).den)(p2 p3 p4 p5 p6 p7 p8:Nat)(p9:List (Nat×Nat))(HA:Nat):Prop:=(↑p2:Int)=(↑p2:Int)/\(↑p3:Int)+1=(↑p4:Int)/\p0 0=p0 0/\p0 1=p0 1/\p0 2=p0 2/\p0 3=p0 3/\p0 4=p0 4/\p0 5=p0 5/\p0 6=p0 6/\p0 7=p0 7/\p4<=p5/\(p5-p4)<(p5-p3)
def dU.q8 (p0:List aG)(p1:Nat)(p2:List fB.den)(p3 p4:Nat)(p5:List (aU).den)(p6:Nat->Bool)(p7 p8 p9 HA Qw S5 Yx p14:Bool):Prop:=True/\aS (decide ((1:Int)-HZ (p0.getD p1 (0,0,0,())).1 (1:Int)=0)) (dU.q3 p2 p3 p4 p0 p1 p5 p7 (p6 1) p8 (p6 3) p9 (p6 5) HA (p6 7)) (aS (decide ((1:Int)-HZ (p0.getD p1 (0,0,0,())).1 (1:Int)=1)) (dU.q3 p2 p3 p4 p0 p1 p5 (p6 0) Qw (p6 2) S5 (p6 4) Yx (p6 6) p14) False)
def dU.q9 (p0:List aG)(p1:Nat)(p2:List fB.den)(p3 p4:Nat)(p5:List (aU).den)(p6 p7:Nat->Bool)(p8 p9 HA Qw S5 Yx p14 p15:Bool):Prop:=True/\aS (decide (HZ (p0.getD p1 (0,0,0,())).2.1 (1:Int)=0)) (dU.q4 p1 p2 p3 p4 p0 p5 p6 p8 (p7 1) p9 (p7 3) HA (p7 5) Qw (p7 7)) (aS (decide (HZ (p0.getD p1 (0,0,0,())).2.1 (1:Int)=1)) (dU.q4 p1 p2 p3 p4 p0 p5 p6 (p7 0) S5 (p7 2) Yx (p7 4) p14 (p7 6) p15) False)
def dU.q10 (p0:List (aU).den)(p1:Int)(p2:Nat)(p3 p4 p5 p6 p7 p8 p9 HA Qw S5 Yx p14 p15 p16 p17 p18:Bool)(p19:Nat)(p20:Nat->Bool)(p21:List Int)(p22 p23:Nat):Prop:=p1=(↑p2:Int)/\p3=p4/\p5=p6/\p7=p8/\p9=HA/\Qw=S5/\Yx=p14/\p15=p16/\p17=p18/\p2<=p19/\Mm p0 p20 p21/\(p19-p2)<p23
def dU.q11 (p0:Nat)(p1:List fB.den)(p2:Nat)(p3:List (aU).den)(p4:Nat->Bool)(p5 p6 p7 p8 p9 HA Qw S5:Bool):Prop:=dw ((↑p0:Int)+1)/\∃(a:Nat),∃(x:Nat->Bool),mU bq.den/\(0:Int)=0/\p1=p1/\(↑p2:Int)=(↑p2:Int)/\(↑p1.length:Int)=(↑p1.length:Int)/\(↑p2:Int)=(↑p2:Int)/\true=true/\(↑p2:Int)=(↑p2:Int)/\p1=p1/\(↑p1.length:Int)=(↑p1.length:Int)/\dU.q10 p3 ((↑p0:Int)+1) a p5 (x 0) p6 (x 1) p7 (x 2) p8 (x 3) p9 (x 4) HA (x 5) Qw (x 6) S5 (x 7) p3.length x (Bl p3 (pF p3 p2) p2 a) 28 (p3.length-p0)
def dU.q12 (p0:List fB.den)(p1:Nat):Prop:=Ok (p0.getD p1 ([],[],0,[],[],[],[],[],[],[],[],[],())).1 (p0.getD p1 ([],[],0,[],[],[],[],[],[],[],[],[],())).2.1 (p0.getD p1 ([],[],0,[],[],[],[],[],[],[],[],[],())).2.2.1 (p0.getD p1 ([],[],0,[],[],[],[],[],[],[],[],[],())).2.2.2.1
def dU.q13 (p0:Nat)(p1:List (aU).den)(p2:Nat)(p3:List fB.den)(p4:Nat->Bool)(p5 p6:Bool):Prop:=True/\aS (decide ((↑p0:Int)=0)) (dU.q5 p1 p2 p0 p3 p4 p5) (aS (decide ((↑p0:Int)=1)) (dU.q5 p1 p2 p0 p3 p4 p6) False)
theorem dU:VI G17 Try.f17 [some (.sl bq),some cS] adE:=by
 refine gT λa=>?_;unfold adE;split
 rotate_left
 .trivial
 rename_i l;intro hp;refine pE (A:=l.length<=1000/\(∀(p:(aU).den),p∈l->gv p)/\aS ((if 4<l.length then(6:Int)else jT l) !=0) (∃(a:List (List Int)),∃(y:Int),[]=a/\(if 4<l.length then(6:Int)else jT l)=y/\a=Mj l/\y=jb l/\True) ((l.length<=1000/\(∀(p:(aU).den),p∈l->gv p)/\∃(a:List fB.den),mU bq.den/\(0:Int)=0/\List.map aV l=a/\false=false/\false=false/\false=false/\false=false/\false=false/\false=false/\false=false/\false=false/\a=List.map aV l/\True)/\∀(a:List fB.den),a=List.map aV l->(∃(a:Nat),∃(y:Nat->Bool),dU.q10 l (0:Int) a false (y 0) false (y 1) false (y 2) false (y 3) false (y 4) false (y 5) false (y 6) false (y 7) l.length y (pF l a) 23 1000000)/\∀(y:Nat)(s:Nat->Bool),y<=l.length->Mm l s (pF l y)->aS (decide ((↑y:Int)<(↑a.length:Int))) ((∃(a:Nat),∃(x:Nat->Bool),dU.q10 l (0:Int) a (s 0) (x 0) (s 1) (x 1) (s 2) (x 2) (s 3) (x 3) (s 4) (x 4) (s 5) (x 5) (s 6) (x 6) (s 7) (x 7) l.length x (Bl l (pF l y) y a) 28 1000000)/\∀(x:Nat)(z:Nat->Bool),x<=l.length->Mm l z (Bl l (pF l y) y x)->aS (decide ((↑x:Int)<(↑a.length:Int))) (aS ((↑y:Int)==(↑x:Int)) (dU.q11 x a y l z (z 0) (z 1) (z 2) (z 3) (z 4) (z 5) (z 6) (z 7)) (((0<=(↑y:Int)/\(↑y:Int)<(↑a.length:Int))/\(0<=(↑x:Int)/\(↑x:Int)<(↑a.length:Int))/\dU.q12 a y/\dU.q12 a x/\dU.q6 a y (dU.q6 a x (∃(r:List aG),aD (a.getD y ([],[],0,[],[],[],[],[],[],[],[],[],())).1 (a.getD y ([],[],0,[],[],[],[],[],[],[],[],[],())).2.1 (a.getD y ([],[],0,[],[],[],[],[],[],[],[],[],())).2.2.2.1 (a.getD x ([],[],0,[],[],[],[],[],[],[],[],[],())).1 (a.getD x ([],[],0,[],[],[],[],[],[],[],[],[],())).2.1 (a.getD x ([],[],0,[],[],[],[],[],[],[],[],[],())).2.2.2.1 ((a.getD y ([],[],0,[],[],[],[],[],[],[],[],[],())).2.2.1+(a.getD x ([],[],0,[],[],[],[],[],[],[],[],[],())).2.2.1)=r/\(↑(aD (a.getD y ([],[],0,[],[],[],[],[],[],[],[],[],())).1 (a.getD y ([],[],0,[],[],[],[],[],[],[],[],[],())).2.1 (a.getD y ([],[],0,[],[],[],[],[],[],[],[],[],())).2.2.2.1 (a.getD x ([],[],0,[],[],[],[],[],[],[],[],[],())).1 (a.getD x ([],[],0,[],[],[],[],[],[],[],[],[],())).2.1 (a.getD x ([],[],0,[],[],[],[],[],[],[],[],[],())).2.2.2.1 ((a.getD y ([],[],0,[],[],[],[],[],[],[],[],[],())).2.2.1+(a.getD x ([],[],0,[],[],[],[],[],[],[],[],[],())).2.2.1)).length:Int)=(↑r.length:Int)/\(0:Int)=0/\r=bS (l.getD y dP) (l.getD x dP)/\True)))/\∀(r:List aG),r=bS (l.getD y dP) (l.getD x dP)->(∃(a:Nat),∃(u:Nat->Bool),dU.q10 l (0:Int) a (z 0) (u 0) (z 1) (u 1) (z 2) (u 2) (z 3) (u 3) (z 4) (u 4) (z 5) (u 5) (z 6) (u 6) (z 7) (u 7) (bS (l.getD y dP) (l.getD x dP)).length u (Ma l (Bl l (pF l y) y x) y x a) 44 1000000)/\∀(u:Nat)(v:Nat->Bool),u<=(bS (l.getD y dP) (l.getD x dP)).length->Mm l v (Ma l (Bl l (pF l y) y x) y x u)->aS (decide ((↑u:Int)<(↑r.length:Int))) ((0<=(↑u:Int)/\(↑u:Int)<(↑r.length:Int))/\(True/\dw ((1:Int)-HZ (r.getD u (0,0,0,())).1 (1:Int))/\aS (decide ((↑y:Int)=0)) (dU.q8 r u a y x l v true (v 2) (v 4) (v 6) true (v 3) (v 5) (v 7)) (aS (decide ((↑y:Int)=1)) (dU.q8 r u a y x l v (v 0) true (v 4) (v 6) (v 1) true (v 5) (v 7)) (aS (decide ((↑y:Int)=2)) (dU.q8 r u a y x l v (v 0) (v 2) true (v 6) (v 1) (v 3) true (v 7)) (aS (decide ((↑y:Int)=3)) (dU.q8 r u a y x l v (v 0) (v 2) (v 4) true (v 1) (v 3) (v 5) true) False))))/\∀(w:Nat->Bool),Mm l w ((Ma l (Bl l (pF l y) y x) y x u).set (2*y+(eg ((bS (l.getD y dP) (l.getD x dP)).getD u (0,0,0,())).1 (1:Int)).toNat) (1:Int))->True/\aS (decide ((↑x:Int)=0)) (dU.q9 r u a y x l v w true (w 2) (w 4) (w 6) true (w 3) (w 5) (w 7)) (aS (decide ((↑x:Int)=1)) (dU.q9 r u a y x l v w (w 0) true (w 4) (w 6) (w 1) true (w 5) (w 7)) (aS (decide ((↑x:Int)=2)) (dU.q9 r u a y x l v w (w 0) (w 2) true (w 6) (w 1) (w 3) true (w 7)) (aS (decide ((↑x:Int)=3)) (dU.q9 r u a y x l v w (w 0) (w 2) (w 4) true (w 1) (w 3) (w 5) true) False)))) (dU.q11 x a y l z (v 0) (v 1) (v 2) (v 3) (v 4) (v 5) (v 6) (v 7)))) (dw ((↑y:Int)+1)/\∃(r:Nat),∃(u:Nat->Bool),mU bq.den/\(0:Int)=0/\a=a/\(↑a.length:Int)=(↑a.length:Int)/\dU.q10 l ((↑y:Int)+1) r (z 0) (u 0) (z 1) (u 1) (z 2) (u 2) (z 3) (u 3) (z 4) (u 4) (z 5) (u 5) (z 6) (u 6) (z 7) (u 7) l.length u (pF l r) 23 (l.length-y))) ((∃(a:Nat),[]=yj (pF l l.length) (2*a)/\0=(↑a:Int)/\a<=l.length/\(l.length-a)<1000000)/\∀(x:Nat),x<=l.length->aS (decide ((↑x:Int)<(↑a.length:Int))) ((∃(a:Nat),yj (pF l l.length) (2*x)=yj (pF l l.length) (2*x+a)/\0=(↑a:Int)/\a<=2/\(2-a)<1000000)/\∀(z:Nat),z<=2->aS (decide ((↑z:Int)<2)) (aS (decide ((↑x:Int)=0)) (dU.q13 z l x a s (s 0) (s 1)) (aS (decide ((↑x:Int)=1)) (dU.q13 z l x a s (s 2) (s 3)) (aS (decide ((↑x:Int)=2)) (dU.q13 z l x a s (s 4) (s 5)) (aS (decide ((↑x:Int)=3)) (dU.q13 z l x a s (s 6) (s 7)) False)))/\∀(r:Bool),(r=true↔(pF l l.length).getD (2*x+z) (0:Int)=0)->aS r ((yj (pF l l.length) (2*x+z)).length+1<=1000000000/\dw ((↑z:Int)+1)/\∃(u:Nat),mU bq.den/\(0:Int)=0/\yj (pF l l.length) (2*x+z)++[[(↑x:Int),(↑z:Int)]]=yj (pF l l.length) (2*x+u)/\(↑x:Int)=(↑x:Int)/\(↑a.length:Int)=(↑a.length:Int)/\(↑x:Int)=(↑x:Int)/\true=true/\dU.q7 s l x z u 2 (2*x+u) (2-1) 69 [] (2*x+z)) (dw ((↑z:Int)+1)/\∃(u:Nat),mU bq.den/\(0:Int)=0/\yj (pF l l.length) (2*x+z)=yj (pF l l.length) (2*x+u)/\(↑x:Int)=(↑x:Int)/\(↑a.length:Int)=(↑a.length:Int)/\(↑x:Int)=(↑x:Int)/\true=true/\dU.q7 s l x z u 2 (2*x+u) (2-1) 69 [] (2*x+z))) (dw ((↑x:Int)+1)/\∃(r:Nat),mU bq.den/\(0:Int)=0/\yj (pF l l.length) (2*x+z)=yj (pF l l.length) (2*r)/\dU.q7 s l a.length x r l.length (2*r) 1 66 [(22,1)] (2*x))) (∃(a:List (List Int)),∃(z:Int),yj (pF l l.length) (2*x)=a/\0=z/\a=Mj l/\z=jb l/\True)))) (by kernel_rfl) ?_;unfold dU.q13 dU.q12 dU.q11 dU.q10 dU.q9 dU.q8 dU.q7 dU.q6 dU.q5 dU.q4 dU.q3 dU.q2 dU.q1;obtain⟨h1,h2,-⟩:=hp;change List PD at l;simp only[fS,fe,ek,eq_self,true_and,and_true,iz,dw];refine⟨h1,h2,λe0=>?_,λe1=>⟨[],_,rfl,rfl,by rw[Mj,if_neg (show¬jb l=0 from e1)],rfl⟩⟩;obtain⟨k1,k2⟩:=yZ e0;refine⟨⟨h1,h2,_,rfl,rfl⟩,λW hW=>?_⟩;subst hW;simp only[List.length_map];refine⟨⟨0,λ_=>false,rfl,rfl,rfl,rfl,rfl,rfl,rfl,rfl,rfl,by omega,Xi,by omega⟩,λi g hi hg=>⟨λFg=>⟨⟨0,g,rfl,rfl,rfl,rfl,rfl,rfl,rfl,rfl,rfl,by omega,hg,by omega⟩,λk g1 hk YF=>⟨λpG=>⟨λe=>?_,λe=>?_⟩,λpG=>?_⟩⟩,λFg=>⟨⟨0,rfl,rfl,by omega,by omega⟩,λx hx=>⟨λjR=>⟨⟨0,rfl,rfl,by omega,by omega⟩,λy hy=>⟨λX5=>?_,λX5=>?_⟩⟩,λjR=>?_⟩⟩⟩⟩;· exact⟨⟨by omega,by omega⟩,k+1,g1,by omega,rfl,rfl,rfl,rfl,rfl,rfl,rfl,rfl,by omega,aat (l:=l) (by omega:i=k)▸YF,by omega⟩
 .have o1:kP (l.getD i dP):=uX (by omega) k2;have o2:kP (l.getD k dP):=uX (by omega) k2;have sl:=AQ o1 o2;simp only[H8 (l:=l) (k:=i) (by omega),H8 (l:=l) (k:=k) (by omega),aV,eq_self,true_and];refine⟨⟨⟨by omega,by omega⟩,⟨by omega,by omega⟩,o1,o2,_,rfl,rfl,rfl⟩,λs hs=>?_⟩;subst hs;refine⟨⟨0,g1,rfl,rfl,rfl,rfl,rfl,rfl,rfl,rfl,rfl,by omega,YF,by omega⟩,λj g2 hj Mf=>⟨λwv=>?_,λwv=>?_⟩⟩
  .have wv:j<(bS (l.getD i dP) (l.getD k dP)).length:=mq.1 wv;have st:=Xh (l:=l) (U:=Bl l (pF l i) i k) (a:=i) (b:=k) (0,0,0,()) wv;have li:=AP o1 o2 (fF (P:=λx=>x∈bS (l.getD i dP) (l.getD k dP)) (d:=(0,0,0,())) wv λ_ h=>h)
   revert st li
   generalize(bS (l.getD i dP) (l.getD k dP)).getD j (0,0,0,())=s;rintro st ⟨⟨x0,x3⟩,y0,y3⟩;have hx:eg s.1 1=0\/eg s.1 1=1:=by unfold eg;split<;>omega
   have hy:=(Ns y0 y3).2.2;simp only[(Ns x0 x3).2.1,(Ns y0 y3).1];refine⟨⟨by omega,mq.2 wv⟩,⟨⟨by omega,by omega⟩,br4 (by omega) (λ_=>SR hx (λ_=>⟨up g2 0,rfl,rfl,rfl,rfl,rfl,rfl,rfl,rfl,oP Mf (by omega) (by omega)⟩) (λ_=>⟨up g2 1,rfl,rfl,rfl,rfl,rfl,rfl,rfl,rfl,oP Mf (by omega) (by omega)⟩)) (λ_=>SR hx (λ_=>⟨up g2 2,rfl,rfl,rfl,rfl,rfl,rfl,rfl,rfl,oP Mf (by omega) (by omega)⟩) (λ_=>⟨up g2 3,rfl,rfl,rfl,rfl,rfl,rfl,rfl,rfl,oP Mf (by omega) (by omega)⟩)) (λ_=>SR hx (λ_=>⟨up g2 4,rfl,rfl,rfl,rfl,rfl,rfl,rfl,rfl,oP Mf (by omega) (by omega)⟩) (λ_=>⟨up g2 5,rfl,rfl,rfl,rfl,rfl,rfl,rfl,rfl,oP Mf (by omega) (by omega)⟩)) (λ_=>SR hx (λ_=>⟨up g2 6,rfl,rfl,rfl,rfl,rfl,rfl,rfl,rfl,oP Mf (by omega) (by omega)⟩) (λ_=>⟨up g2 7,rfl,rfl,rfl,rfl,rfl,rfl,rfl,rfl,oP Mf (by omega) (by omega)⟩))⟩,λg3 hg3=>?_⟩;have fin:∀M,2*k+(eg s.2.1 0).toNat=M->M<2*l.length->Mm l (up g3 M) (Ma l (Bl l (pF l i) i k) i k (j+1)):=λM e h=>by rw[<-st];exact oP hg3 e h
   exact br4 (by omega) (λ_=>SR hy (λ_=>⟨⟨by omega,by omega⟩,j+1,up g3 0,by omega,rfl,rfl,rfl,rfl,rfl,rfl,rfl,rfl,by omega,fin _ (by omega) (by omega),by omega⟩) (λ_=>⟨⟨by omega,by omega⟩,j+1,up g3 1,by omega,rfl,rfl,rfl,rfl,rfl,rfl,rfl,rfl,by omega,fin _ (by omega) (by omega),by omega⟩)) (λ_=>SR hy (λ_=>⟨⟨by omega,by omega⟩,j+1,up g3 2,by omega,rfl,rfl,rfl,rfl,rfl,rfl,rfl,rfl,by omega,fin _ (by omega) (by omega),by omega⟩) (λ_=>⟨⟨by omega,by omega⟩,j+1,up g3 3,by omega,rfl,rfl,rfl,rfl,rfl,rfl,rfl,rfl,by omega,fin _ (by omega) (by omega),by omega⟩)) (λ_=>SR hy (λ_=>⟨⟨by omega,by omega⟩,j+1,up g3 4,by omega,rfl,rfl,rfl,rfl,rfl,rfl,rfl,rfl,by omega,fin _ (by omega) (by omega),by omega⟩) (λ_=>⟨⟨by omega,by omega⟩,j+1,up g3 5,by omega,rfl,rfl,rfl,rfl,rfl,rfl,rfl,rfl,by omega,fin _ (by omega) (by omega),by omega⟩)) (λ_=>SR hy (λ_=>⟨⟨by omega,by omega⟩,j+1,up g3 6,by omega,rfl,rfl,rfl,rfl,rfl,rfl,rfl,rfl,by omega,fin _ (by omega) (by omega),by omega⟩) (λ_=>⟨⟨by omega,by omega⟩,j+1,up g3 7,by omega,rfl,rfl,rfl,rfl,rfl,rfl,rfl,rfl,by omega,fin _ (by omega) (by omega),by omega⟩))
  have wv:¬j<(bS (l.getD i dP) (l.getD k dP)).length:=λh=>wv (mq.2 h);refine⟨⟨by omega,by omega⟩,k+1,g2,by omega,rfl,rfl,rfl,rfl,rfl,rfl,rfl,rfl,by omega,?_,by omega⟩;rw[<-aev (by omega:i≠k),<-show j=(bS (l.getD i dP) (l.getD k dP)).length by omega];exact Mf
 .refine⟨⟨by omega,by omega⟩,i+1,g1,by omega,rfl,rfl,rfl,rfl,rfl,rfl,rfl,rfl,by omega,?_,by omega⟩;rw[<-Xj,<-show k=l.length by omega];exact YF
 .have hz:∀M,M<8->2*x+y=M->∃a,(!g M)=a/\(a=true↔(pF l l.length).getD (2*x+y) 0=0):=λM hM e=>⟨_,rfl,by rw[nI,(hg.2 M hM),e,show i=l.length by omega]⟩;have hy2:(y:Int)=0\/(y:Int)=1:=by omega
  have bl:=Je (U:=pF l l.length) (k:=2*x+y);refine⟨br4 (by omega) (λ_=>SR hy2 (λ_=>hz 0 (by omega) (by omega)) (λ_=>hz 1 (by omega) (by omega))) (λ_=>SR hy2 (λ_=>hz 2 (by omega) (by omega)) (λ_=>hz 3 (by omega) (by omega))) (λ_=>SR hy2 (λ_=>hz 4 (by omega) (by omega)) (λ_=>hz 5 (by omega) (by omega))) (λ_=>SR hy2 (λ_=>hz 6 (by omega) (by omega)) (λ_=>hz 7 (by omega) (by omega))),λb hb=>mc.2 ⟨λc=>?_,λc=>?_⟩⟩;· exact⟨by omega,⟨by omega,by omega⟩,y+1,by rw[<-eE,<-abd (hb.1 c),show(2*x+y)/2=x by omega,show(2*x+y) % 2=y by omega],by omega,by omega,by omega⟩
  exact⟨⟨by omega,by omega⟩,y+1,(by rw[<-eE];exact aeU λh=>by rw[hb.2 h]at c;cases c),by omega,by omega,by omega⟩
 .refine⟨⟨by omega,by omega⟩,x+1,by rw[show y=2 by omega,show 2*x+2=2*(x+1)by omega],by omega,by omega,by omega⟩
 exact⟨_,_,rfl,rfl,by rw[Mj,if_pos (show jb l=0 from e0),show x=l.length by omega],e0.symm⟩
end Go.Tv
namespace Go.Tv
open Go Go.Di Go.Proofs
def wy(p q:PD):Int:=Dk p.1 p.2.1 p.2.2.2.1 q.1 q.2.1 q.2.2.2.1 p.2.2.1 q.2.2.1
def yc(l:List PD)(a k:Nat):List (List Int):=((List.range k).filter λb=>decide (a<b)&&decide (1<wy (l.getD a dP) (l.getD b dP))).map λ(b:Nat)=>[(a:Int),(b:Int)]
def CK(l:List PD)(i:Nat):List (List Int):=(List.range i).flatMap λa=>yc l a l.length
def Oy(l:List PD):List (List Int):=if jb l=0 then CK l l.length else[]
section
variable {l:List PD} {a k i:Nat}
theorem aa2(h:a<k)(h1:1<wy (l.getD a dP) (l.getD k dP)):yc l a k++[[(a:Int),(k:Int)]]=yc l a (k+1):=by rw[yc,yc,eR,mC,dY,List.filter_cons,if_pos (by rw[eF h,eF h1];rfl)];rfl
theorem aeN(h1:¬1<wy (l.getD a dP) (l.getD k dP)):yc l a k=yc l a (k+1):=by rw[yc,yc,eR,mC,dY,List.filter_cons,if_neg (by rw[jl h1,oU];exact Bool.false_ne_true)];simp
theorem Ln:∀k,k<=a+1->yc l a k=[]
 |0,_=>rfl
 |k+1,h=>by have ih:=Ln k (by omega);rw[yc,eR,mC,dY,List.filter_cons,if_neg (by simp;omega)];unfold yc at ih;rw[ih];rfl
theorem uY:CK l i++yc l i l.length=CK l (i+1):=by rw[CK,CK,eR,List.flatMap_append];simp
theorem Qg:(yc l a k).length<=k:=by rw[yc,List.length_map];refine bD (vP _ _) ?_;simp
theorem Ja:∀i,(CK l i).length<=i*l.length
 |0=>by simp[CK]
 |i+1=>by rw[<-uY,bU,mo];have:=Ja i;have h2:=Qg (l:=l) (a:=i) (k:=l.length);omega
end
noncomputable def G18:eZ:=((T0.dQ 43 λa=>dS (YP a)).dQ 48 λa=>dS (T9 a)).dQ 31 λa=>dS (D31 a)
def adD:List TV->Dn
 |[.sl (.pair (.sl (.int .i64)) (.pair (.sl (.int .i64)) (.pair (.int .i64) (.pair (.sl (.int .i64)) .unit)))) l .no]=>some ([l.length<=1000,∀p∈l,gv p],.ex (List (List Int)) λx=>.ex Int λe=>.res (.tup [.sl bq x .no,bp e]) [] [x=Oy l,e=jb l],
  [(5,.ex (List fB.den) λW=>.st {sl:=[(5,.sl fB W .no)],cO:=[W=l.map aV]}),
   (9,.dep λ_ tS=>.ex Nat λi=>.st {sl:=[(6,.sl bq (CK l i) (.je tS.length)),(18,bp i)],own:=[(22,1)],cO:=[i<=l.length],m:=l.length-i}),
   (15,.dep λte tS=>fZ te 7 λi=>.ex Nat λk=>.st {sl:=[(6,.sl bq (CK l i++yc l i k) (.je (tS.length-1))),(8,bp k)],cO:=[i<k,k<=l.length],m:=l.length-k})])
 |_=>none
def uj.q1 (p0:List fB.den)(p1:Nat)(p2:Prop):Prop:=(p0.getD p1 ([],[],0,[],[],[],[],[],[],[],[],[],())).2.2.2.2.1=(p0.getD p1 ([],[],0,[],[],[],[],[],[],[],[],[],())).1/\(p0.getD p1 ([],[],0,[],[],[],[],[],[],[],[],[],())).2.2.2.2.2.1=(p0.getD p1 ([],[],0,[],[],[],[],[],[],[],[],[],())).2.1/\(p0.getD p1 ([],[],0,[],[],[],[],[],[],[],[],[],())).2.2.2.2.2.2.1=List.reverse (p0.getD p1 ([],[],0,[],[],[],[],[],[],[],[],[],())).2.1/\(p0.getD p1 ([],[],0,[],[],[],[],[],[],[],[],[],())).2.2.2.2.2.2.2.1=List.reverse (p0.getD p1 ([],[],0,[],[],[],[],[],[],[],[],[],())).1/\(p0.getD p1 ([],[],0,[],[],[],[],[],[],[],[],[],())).2.2.2.2.2.2.2.2.1=List.reverse (p0.getD p1 ([],[],0,[],[],[],[],[],[],[],[],[],())).1/\(p0.getD p1 ([],[],0,[],[],[],[],[],[],[],[],[],())).2.2.2.2.2.2.2.2.2.1=List.reverse (p0.getD p1 ([],[],0,[],[],[],[],[],[],[],[],[],())).2.1/\(p0.getD p1 ([],[],0,[],[],[],[],[],[],[],[],[],())).2.2.2.2.2.2.2.2.2.2.1=(p0.getD p1 ([],[],0,[],[],[],[],[],[],[],[],[],())).2.1/\(p0.getD p1 ([],[],0,[],[],[],[],[],[],[],[],[],())).2.2.2.2.2.2.2.2.2.2.2.1=(p0.getD p1 ([],[],0,[],[],[],[],[],[],[],[],[],())).1/\p2
def uj.q2 (p0 p1:Nat)(p2:List fB.den)(p3:List (aU).den)(p4:Nat):Prop:=(↑p0:Int)=(↑p0:Int)/\(↑p1:Int)+1=(↑p4:Int)/\(↑p2.length:Int)=(↑p2.length:Int)/\(↑p0:Int)=(↑p0:Int)/\true=true/\(↑p0:Int)=(↑p0:Int)/\(↑p0:Int)=(↑p0:Int)/\(↑p0:Int)+1=(↑p0:Int)+1/\p0<p4/\p4<=p3.length/\(p3.length-p4)<(p3.length-p1)
def uj.q3 (p0:List fB.den)(p1:Nat):Prop:=Ok (p0.getD p1 ([],[],0,[],[],[],[],[],[],[],[],[],())).1 (p0.getD p1 ([],[],0,[],[],[],[],[],[],[],[],[],())).2.1 (p0.getD p1 ([],[],0,[],[],[],[],[],[],[],[],[],())).2.2.1 (p0.getD p1 ([],[],0,[],[],[],[],[],[],[],[],[],())).2.2.2.1
def uj.q4 (p0:List (aU).den)(p1:Int)(p2 p3:Nat):Prop:=p1=(↑p2:Int)/\p2<=p0.length/\(p0.length-p2)<p3
theorem uj:VI G18 Try.f18 [some (.sl bq),some cS] adD:=by
 refine gT λa=>?_;unfold adD;split
 rotate_left
 .trivial
 rename_i l;intro hp;refine pE (A:=l.length<=1000/\(∀(p:(aU).den),p∈l->gv p)/\aS ((if 4<l.length then(6:Int)else jT l) !=0) (∃(a:List (List Int)),∃(x:Int),[]=a/\(if 4<l.length then(6:Int)else jT l)=x/\a=Oy l/\x=jb l/\True) ((l.length<=1000/\(∀(p:(aU).den),p∈l->gv p)/\∃(a:List fB.den),mU bq.den/\(0:Int)=0/\List.map aV l=a/\a=List.map aV l/\True)/\∀(a:List fB.den),a=List.map aV l->(∃(a:Nat),[]=CK l a/\uj.q4 l (0:Int) a 1000000)/\∀(x:Nat),x<=l.length->aS (decide ((↑x:Int)<(↑a.length:Int))) (dw ((↑x:Int)+1)/\(∃(a:Nat),CK l x=CK l x++yc l x a/\(↑x:Int)+1=(↑a:Int)/\x<a/\a<=l.length/\(l.length-a)<1000000)/\∀(y:Nat),x<y->y<=l.length->aS (decide ((↑y:Int)<(↑a.length:Int))) ((0<=(↑x:Int)/\(↑x:Int)<(↑a.length:Int))/\(0<=(↑y:Int)/\(↑y:Int)<(↑a.length:Int))/\uj.q3 a x/\uj.q3 a y/\uj.q1 a x (uj.q1 a y (aS (decide (Dk (a.getD x ([],[],0,[],[],[],[],[],[],[],[],[],())).1 (a.getD x ([],[],0,[],[],[],[],[],[],[],[],[],())).2.1 (a.getD x ([],[],0,[],[],[],[],[],[],[],[],[],())).2.2.2.1 (a.getD y ([],[],0,[],[],[],[],[],[],[],[],[],())).1 (a.getD y ([],[],0,[],[],[],[],[],[],[],[],[],())).2.1 (a.getD y ([],[],0,[],[],[],[],[],[],[],[],[],())).2.2.2.1 (a.getD x ([],[],0,[],[],[],[],[],[],[],[],[],())).2.2.1 (a.getD y ([],[],0,[],[],[],[],[],[],[],[],[],())).2.2.1>1)) ((CK l x++yc l x y).length+1<=1000000000/\dw ((↑y:Int)+1)/\∃(z:Nat),mU bq.den/\(0:Int)=0/\a=a/\CK l x++yc l x y++[[(↑x:Int),(↑y:Int)]]=CK l x++yc l x z/\uj.q2 x y a l z) (dw ((↑y:Int)+1)/\∃(z:Nat),mU bq.den/\(0:Int)=0/\a=a/\CK l x++yc l x y=CK l x++yc l x z/\uj.q2 x y a l z)))) (dw ((↑x:Int)+1)/\∃(z:Nat),mU bq.den/\(0:Int)=0/\a=a/\CK l x++yc l x y=CK l z/\(↑a.length:Int)=(↑a.length:Int)/\uj.q4 l ((↑x:Int)+1) z (l.length-x))) (∃(a:List (List Int)),∃(y:Int),CK l x=a/\0=y/\a=Oy l/\y=jb l/\True))) (by kernel_rfl) ?_;unfold uj.q4 uj.q3 uj.q2 uj.q1;obtain⟨h1,h2,-⟩:=hp;change List PD at l;simp only[fS,fe,ek,eq_self,true_and,and_true,iz,dw];refine⟨h1,h2,λe0=>?_,λe1=>⟨[],_,rfl,rfl,by rw[Oy,if_neg (show¬jb l=0 from e1)],rfl⟩⟩;obtain⟨k1,k2⟩:=yZ e0;refine⟨⟨h1,h2,_,rfl,rfl⟩,λW hW=>?_⟩;subst hW;simp only[List.length_map];refine⟨⟨0,rfl,by omega,by omega,by omega⟩,λi hi=>⟨λFg=>⟨⟨by omega,by omega⟩,⟨i+1,by rw[Ln _ (ak _),dZ],by omega,by omega,by omega,by omega⟩,λk hk JB=>⟨λpG=>?_,λpG=>?_⟩⟩,λFg=>?_⟩⟩;· simp only[H8 (l:=l) (k:=i) (by omega),H8 (l:=l) (k:=k) (by omega),aV,eq_self,true_and];have bl:=Ja (l:=l) i;have b2:=Qg (l:=l) (a:=i) (k:=k);have b3:i*l.length<=4*4:=Nat.mul_le_mul (by omega) (by omega);refine⟨⟨by omega,by omega⟩,⟨by omega,by omega⟩,(fF (P:=kP) (by omega) k2:kP (l.getD i dP)),(fF (P:=kP) (by omega) k2:kP (l.getD k dP)),λc=>⟨by rw[bU];omega,⟨by omega,by omega⟩,k+1,by rw[jm,aa2 hk c],by omega,by omega,by omega,by omega⟩,λc=>⟨⟨by omega,by omega⟩,k+1,by rw[<-aeN c],by omega,by omega,by omega,by omega⟩⟩
 .exact⟨⟨by omega,by omega⟩,i+1,by rw[<-uY,show k=l.length by omega],by omega,by omega,by omega⟩
 exact⟨_,_,rfl,rfl,by rw[Oy,if_pos (show jb l=0 from e0),show i=l.length by omega],(show jb l=0 from e0).symm⟩
end Go.Tv
namespace Go.Tv
open Go Go.Di Go.Proofs
def S58:List TV->Sp
 |[.sl (.int .i64) l .no]=>some ([l.length<=1000],.res (.sl cS l .no) [] [])
 |_=>none
def T0d:eZ:=T0.dQ 67 S58
def D20:List TV->Dn
 |[.agg [.sl (.int .i64) au .no,.sl (.int .i64) al .no,.val (.int .i64 aw),.sl (.int .i64) aq .no]]=>some ([Sh au al aq],.res (pcV au al aw aq) [] [],[])
 |_=>none
theorem v20:VI T0d Try.f42 [some aU] D20:=by
 refine gT λa=>?_;unfold D20;split
 rotate_left
 .trivial
 rename_i u l w ls;intro hp;refine pE (A:=u.length<=1000/\l.length<=1000/\ls.length<=1000/\u=u/\l=l/\w=w/\ls=ls/\True) (by kernel_rfl) ?_;obtain⟨h1,h2,h3⟩:=hp.1;exact⟨h1,h2,h3,rfl,rfl,rfl,rfl,trivial⟩
structure TX (bH:bR):Prop where
 dup:∀(l:List Int) d,l.length<=1000->RT fA [] (.sl cS l .no) d->∃r,bH 67 [d]=some r/\r.pure=true/\RT fA [] (.sl cS l .no) r
section
variable {bH:bR} (tk:yx bH) (tu:TX bH)
theorem UO{T:eZ}{k:Nat}(tu:TX bH)(hT:ko bH k T):ko bH k (T.dQ 67 S58):=OD hT λn a p s hs hp=>by
 unfold S58 at hs;split at hs;.rename_i l;cases hs;intro bJ hd;obtain⟨d,_,rfl,h1,h2⟩:=aj hd;rw[aR h2];obtain⟨r,k1,k2,k3⟩:=tu.dup l d hp.1 h1;exact⟨r,_,by simp only[ym,kJ,k1,k2,if_true],k2,k3,rfl,rfl,trivial⟩
 cases hs
end
end Go.Tv
namespace Go.Tv
open Go Go.Di Go.Proofs
def JM(a b:List Int):Bool:=decide (a=b)
def Yh(a b:List Int)(i:Nat):Bool:=decide (a.length=b.length/\a.take i=b.take i)
section
variable {a b:List Int} {i:Nat}
theorem XH(h:i<a.length)(h1:Yh a b i=true):Yh a b (i+1)=decide (a.getD i 0=b.getD i 0):=by
 have h1:=of_decide_eq_true h1;unfold Yh;rw[take_one h,take_one (h1.1▸h),h1.2];by_cases e:a.getD i 0=b.getD i 0;.rw[e,eF rfl,eF ⟨h1.1,rfl⟩]
 rw[jl e,jl];intro k;exact e (List.cons.inj (List.append_cancel_left k.2)).1
theorem Qd(h:i<=a.length)(h1:¬(Yh a b i=true/\i<a.length)):Yh a b i=JM a b:=by
 unfold JM;cases hk:Yh a b i with
 |true=>
  have h2:=of_decide_eq_true hk;have e:i=a.length:=by
   rcases oT i a.length with h3|h3;.exact absurd ⟨hk,h3⟩ h1
   omega
  have h3:=h2.2;rw[List.take_of_length_le (by omega),List.take_of_length_le (by omega)]at h3;exact(eF h3).symm
 |false=>have h2:=of_decide_eq_false hk;refine(jl λe=>h2 ?_).symm;rw[e];exact⟨rfl,rfl⟩
end
def adC:List TV->Dn
 |[.sl (.int .i64) a .no,.sl (.int .i64) b .no]=>some ([a.length<=1000,b.length<=1000],.res (iD (JM a b)) [] [],
  [(4,.ex Nat λi=>.ex Bool λo=>.st {sl:=[(5,iD o),(6,bp i)],cO:=[o=Yh a b i,i<=a.length],m:=a.length-i})])
 |_=>none
theorem ahl:VI T0 Try.f19 [some .bool] adC:=by
 refine gT λa=>?_;unfold adC;split
 rotate_left
 .trivial
 rename_i a b;intro hp;refine pE (A:=(∃(x:Nat),∃(y:Bool),((↑a.length:Int)==(↑b.length:Int))=y/\0=(↑x:Int)/\y=Yh a b x/\x<=a.length/\(a.length-x)<1000000)/\∀(x:Nat)(y:Bool),y=Yh a b x->x<=a.length->aS y (aS (decide ((↑x:Int)<(↑a.length:Int))) ((0<=(↑x:Int)/\(↑x:Int)<(↑a.length:Int))/\(0<=(↑x:Int)/\(↑x:Int)<(↑b.length:Int))/\dw ((↑x:Int)+1)/\∃(z:Nat),∃(u:Bool),a=a/\b=b/\false=false/\(a.getD x 0==b.getD x 0)=u/\(↑x:Int)+1=(↑z:Int)/\u=Yh a b z/\z<=a.length/\(a.length-z)<(a.length-x)) (y=JM a b/\True)) (y=JM a b/\True)) (by kernel_rfl) ?_;obtain⟨h1,h2,-⟩:=hp;simp only[ek,eq_self,true_and,and_true,dw];refine⟨⟨0,_,rfl,rfl,?_,by omega,by omega⟩,λi o ho hi=>?_⟩
 .by_cases e:a.length=b.length;.rw[show((a.length:Int)==(b.length:Int))=true from by rw[e];exact oW _];exact(eF ⟨e,rfl⟩).symm
  rw[show((a.length:Int)==(b.length:Int))=false from beq_eq_false_iff_ne.2 λc=>e (Int.ofNat_inj.1 c)];exact(jl λc=>e c.1).symm
 refine mc.2 ⟨λc=>⟨λh=>?_,λh=>?_⟩,λc=>?_⟩
 .have h:i<a.length:=mq.1 h;have h0:=of_decide_eq_true (ho.symm.trans c);refine⟨⟨by omega,by omega⟩,⟨by omega,by omega⟩,⟨by omega,by omega⟩,i+1,_,rfl,by omega,?_,by omega,by omega⟩;rw[XH h (ho.symm.trans c)];by_cases e:a.getD i 0=b.getD i 0;.rw[e,eF rfl];exact oW _
  rw[jl e];exact beq_eq_false_iff_ne.2 e
 .rw[ho];exact Qd hi λk=>h (mq.2 k.2)
 rw[ho];exact Qd hi λk=>by rw[<-ho,c]at k;cases k.1
end Go.Tv
namespace Go.Tv
open Go Go.Di Go.Proofs
def afR(te:List TV)(i:Nat)(k:Int->LA):LA:=
 match te.getD i .unk with
 |.val (.int .i64 n)=>k n
 |_=>.un 0
structure Stk (ps:List aU.den) (o:List Int) (s:List cz.den):Prop where
 nd:(s.map (·.1)).Nodup
 fr:∀x∈s,x.1∈o
 ix:∀x∈s,0<=x.1/\x.1<(ps.length:Int)
 Mc:∀x∈s,x.2.1∈(ps.getD x.1.toNat ([],[],0,[],())).2.2.2.1
 z:(s.getD 0 (0,0,0,())).2.2.1=0
def ail:List TV->List TV->Dn
 |[.agg [.val (.int .i64 a),.val (.int .i64 _),.val (.int .i64 _)],.ptr 0 0],[.val (.int .i64 x),.val (.int .i64 y),.val (.int .i64 z)]=>some ([],.res (iD (a==x)) [bp x,bp y,bp z] [],[])
 |_,_=>none
def K2s:eZ:=T0.oJ 71 λa c=>dS (ail a c)
def aik:List TV->List TV->Dn
 |[.sl (.pair (.int .i64) (.pair (.int .i64) (.pair (.int .i64) .unit))) l .no,.fn 71 [] [.ptr 0 0]],[.val (.int .i64 x),.val (.int .i64 y),.val (.int .i64 z)]=>some ([l.length<=1000,∀e∈l,e.1≠x],.res (bp (-1)) [bp x,bp y,bp z] [],[(3,.ex Nat λi=>.st {sl:=[(8,bp i)],cO:=[i<=l.length],m:=l.length-i})])
 |_,_=>none
def K3s:eZ:=K2s.oJ 81 λa c=>dS (aik a c)
def aim:List TV->List TV->Dn
 |[.sl (.pair (.int .i64) (.pair (.int .i64) (.pair (.int .i64) .unit))) l .no,.fn 71 [] [.ptr 0 0]],[.val (.int .i64 x),.val (.int .i64 y),.val (.int .i64 z)]=>some ([l.length<=1000,∀e∈l,e.1≠x],.res (iD false) [bp x,bp y,bp z] [],[])
 |_,_=>none
def K4s:eZ:=(T0.oJ 69 λa c=>dS (aim a c)).dQ 72 λa=>dS (D80 a)
def ain:List TV->Dn
 |[.sl (.pair (.sl (.int .i64)) (.pair (.sl (.int .i64)) (.pair (.int .i64) (.pair (.sl (.int .i64)) .unit)))) ps .no,.sl (.pair (.int .i64) (.pair (.int .i64) (.pair (.int .i64) .unit))) s .no]=>some ([1<=s.length,s.length<=4,∀p∈ps,kP p,Stk ps (s.map (·.1)) s],.res (bp 0) [] [],
  [(8,.ex Nat λi=>.st {sl:=[(17,bp i)],cO:=[i<=s.length],m:=s.length-i})])
 |_=>none
def aiF.q1 (p0:Nat)(p1:List (aU).den)(p2:List (cz).den):Prop:=dw ((↑p0:Int)+1)/\∃(a:Nat),p1=p1/\p2=p2/\p2=p2/\(↑p2.length:Int)=(↑p2.length:Int)/\(↑p0:Int)+1=(↑a:Int)/\a<=p2.length/\(p2.length-a)<(p2.length-p0)
abbrev QL(ps:List aU.den)(x:cz.den):aU.den:=ps.getD x.1.toNat ([],[],0,[],())
def C6(ps:List aU.den)(x y:cz.den):Int×Int×Int:=stA (jv x.2.1 (QL ps x).1 (QL ps x).2.1) (js y.2.1 (QL ps y).1 (QL ps y).2.1) y.2.2.1
def jOk(ps:List aU.den)(x y:cz.den):Prop:=3<=(C6 ps x y).2.2/\(C6 ps x y).2.1-(C6 ps x y).1<=((QL ps x).2.2.1:Int)+((QL ps y).2.2.1:Int)
def mJ(s:List cz.den)(i:Nat):cz.den:=s.getD i (0,0,0,())
def Brk(ps:List aU.den)(s:List cz.den)(k:Int):Prop:=
 (k=-1/\∀j,j+1<s.length->jOk ps (mJ s j) (mJ s (j+1)))\/
 ∃n:Nat,k=(n:Int)+1/\n+1<s.length/\(∀j,j<n->jOk ps (mJ s j) (mJ s (j+1)))/\¬jOk ps (mJ s n) (mJ s (n+1))
def ai4:List TV->Dn
 |[.sl (.pair (.sl (.int .i64)) (.pair (.sl (.int .i64)) (.pair (.int .i64) (.pair (.sl (.int .i64)) .unit)))) ps .no,.sl (.pair (.int .i64) (.pair (.int .i64) (.pair (.int .i64) .unit))) s .no]=>some ([ps.length<=4,1<=s.length,s.length<=4,∀p∈ps,kP p,Stk ps (s.map (·.1)) s],.ex Int λk=>.res (.tup [bp k,bp 0]) [] [Brk ps s k],
  [(9,.ex Nat λn=>.st {sl:=[(7,bp ((n:Int)+1))],cO:=[n+1<=s.length,∀j,j<n->jOk ps (mJ s j) (mJ s (j+1))],m:=s.length-n}),
   (15,.dep λte _=>afR te 7 λi=>.st {sl:=[(12,bp (C6 ps (mJ s (i-1).toNat) (mJ s i.toNat)).1),(13,bp (C6 ps (mJ s (i-1).toNat) (mJ s i.toNat)).2.1),(14,bp (C6 ps (mJ s (i-1).toNat) (mJ s i.toNat)).2.2)]})])
 |_=>none
def K5s:eZ:=(((T0.dQ 43 λa=>dS (YP a)).dQ 50 λa=>dS (ain a)).dQ 32 λa=>dS (D50 a)).dQ 51 λa=>dS (D60 a)
theorem Jc:∀{l:List aU.den},(∀p∈l,kP p)->jT l=0
 |[],_=>rfl
 |p::l,h=>by have e:QX p=0:=VH.2 (h p (by simp));rw[jT,if_neg (by rw[e];simp)];exact Jc λq hq=>h q (by simp[hq])
def qT.q1 (p0:List (cz).den)(p1:Nat)(p2:List (aU).den)(p3 p4:bq.den)(p5:Prop):Prop:=True/\(List.reverse p3).length<=1000/\(List.reverse p4).length<=1000/\ya (List.reverse p3)/\ya (List.reverse p4)/\(stA (List.reverse p3) (List.reverse p4) (p0.getD ((↑p1:Int)+1).toNat (0,0,0,())).2.2.1).1=(C6 p2 (mJ p0 ((↑p1:Int)+1-1).toNat) (mJ p0 ((↑p1:Int)+1).toNat)).1/\(stA (List.reverse p3) (List.reverse p4) (p0.getD ((↑p1:Int)+1).toNat (0,0,0,())).2.2.1).2.1=(C6 p2 (mJ p0 ((↑p1:Int)+1-1).toNat) (mJ p0 ((↑p1:Int)+1).toNat)).2.1/\(stA (List.reverse p3) (List.reverse p4) (p0.getD ((↑p1:Int)+1).toNat (0,0,0,())).2.2.1).2.2=(C6 p2 (mJ p0 ((↑p1:Int)+1-1).toNat) (mJ p0 ((↑p1:Int)+1).toNat)).2.2/\p5
def qT.q2 (p0:bq.den)(p1:List (cz).den)(p2:Nat)(p3:List (aU).den)(p4:bq.den)(p5:Prop):Prop:=True/\List.length p0<=1000/\(List.reverse p4).length<=1000/\ya p0/\ya (List.reverse p4)/\(stA p0 (List.reverse p4) (p1.getD ((↑p2:Int)+1).toNat (0,0,0,())).2.2.1).1=(C6 p3 (mJ p1 ((↑p2:Int)+1-1).toNat) (mJ p1 ((↑p2:Int)+1).toNat)).1/\(stA p0 (List.reverse p4) (p1.getD ((↑p2:Int)+1).toNat (0,0,0,())).2.2.1).2.1=(C6 p3 (mJ p1 ((↑p2:Int)+1-1).toNat) (mJ p1 ((↑p2:Int)+1).toNat)).2.1/\(stA p0 (List.reverse p4) (p1.getD ((↑p2:Int)+1).toNat (0,0,0,())).2.2.1).2.2=(C6 p3 (mJ p1 ((↑p2:Int)+1-1).toNat) (mJ p1 ((↑p2:Int)+1).toNat)).2.2/\p5
def qT.q3 (p0:bq.den)(p1:List (cz).den)(p2:Nat)(p3:List (aU).den)(p4:bq.den):Prop:=True/\List.length p0<=1000/\List.length p4<=1000/\ya p0/\ya p4/\(stA p0 p4 (p1.getD ((↑p2:Int)+1).toNat (0,0,0,())).2.2.1).1=(C6 p3 (mJ p1 ((↑p2:Int)+1-1).toNat) (mJ p1 ((↑p2:Int)+1).toNat)).1/\(stA p0 p4 (p1.getD ((↑p2:Int)+1).toNat (0,0,0,())).2.2.1).2.1=(C6 p3 (mJ p1 ((↑p2:Int)+1-1).toNat) (mJ p1 ((↑p2:Int)+1).toNat)).2.1/\(stA p0 p4 (p1.getD ((↑p2:Int)+1).toNat (0,0,0,())).2.2.1).2.2=(C6 p3 (mJ p1 ((↑p2:Int)+1-1).toNat) (mJ p1 ((↑p2:Int)+1).toNat)).2.2/\True
def qT.q4 (p0:List (cz).den)(p1:Nat)(p2:List (aU).den)(p3:bq.den):Prop:=True/\aS (decide ((p0.getD ((↑p1:Int)+1).toNat (0,0,0,())).2.1=0)) (qT.q3 p3 p0 p1 p2 (p2.getD (Int.toNat (p0.getD ((↑p1:Int)+1).toNat (0,0,0,())).1) ([],[],0,[],())).1) (aS (decide ((p0.getD ((↑p1:Int)+1).toNat (0,0,0,())).2.1=1)) (qT.q2 p3 p0 p1 p2 (p2.getD (Int.toNat (p0.getD ((↑p1:Int)+1).toNat (0,0,0,())).1) ([],[],0,[],())).2.1 True) (aS (decide ((p0.getD ((↑p1:Int)+1).toNat (0,0,0,())).2.1=2)) (qT.q2 p3 p0 p1 p2 (p2.getD (Int.toNat (p0.getD ((↑p1:Int)+1).toNat (0,0,0,())).1) ([],[],0,[],())).1 True) (aS (decide ((p0.getD ((↑p1:Int)+1).toNat (0,0,0,())).2.1=3)) (qT.q3 p3 p0 p1 p2 (p2.getD (Int.toNat (p0.getD ((↑p1:Int)+1).toNat (0,0,0,())).1) ([],[],0,[],())).2.1) False)))
def qT.q5 (p0:List (cz).den)(p1:Nat)(p2:List (aU).den)(p3 p4:bq.den):Prop:=True/\(List.reverse p3).length<=1000/\List.length p4<=1000/\ya (List.reverse p3)/\ya p4/\(stA (List.reverse p3) p4 (p0.getD ((↑p1:Int)+1).toNat (0,0,0,())).2.2.1).1=(C6 p2 (mJ p0 ((↑p1:Int)+1-1).toNat) (mJ p0 ((↑p1:Int)+1).toNat)).1/\(stA (List.reverse p3) p4 (p0.getD ((↑p1:Int)+1).toNat (0,0,0,())).2.2.1).2.1=(C6 p2 (mJ p0 ((↑p1:Int)+1-1).toNat) (mJ p0 ((↑p1:Int)+1).toNat)).2.1/\(stA (List.reverse p3) p4 (p0.getD ((↑p1:Int)+1).toNat (0,0,0,())).2.2.1).2.2=(C6 p2 (mJ p0 ((↑p1:Int)+1-1).toNat) (mJ p0 ((↑p1:Int)+1).toNat)).2.2/\True
def qT.q6 (p0:List (cz).den)(p1:Nat)(p2:List (aU).den)(p3:bq.den):Prop:=True/\aS (decide ((p0.getD ((↑p1:Int)+1).toNat (0,0,0,())).2.1=0)) (qT.q5 p0 p1 p2 p3 (p2.getD (Int.toNat (p0.getD ((↑p1:Int)+1).toNat (0,0,0,())).1) ([],[],0,[],())).1) (aS (decide ((p0.getD ((↑p1:Int)+1).toNat (0,0,0,())).2.1=1)) (qT.q1 p0 p1 p2 p3 (p2.getD (Int.toNat (p0.getD ((↑p1:Int)+1).toNat (0,0,0,())).1) ([],[],0,[],())).2.1 True) (aS (decide ((p0.getD ((↑p1:Int)+1).toNat (0,0,0,())).2.1=2)) (qT.q1 p0 p1 p2 p3 (p2.getD (Int.toNat (p0.getD ((↑p1:Int)+1).toNat (0,0,0,())).1) ([],[],0,[],())).1 True) (aS (decide ((p0.getD ((↑p1:Int)+1).toNat (0,0,0,())).2.1=3)) (qT.q5 p0 p1 p2 p3 (p2.getD (Int.toNat (p0.getD ((↑p1:Int)+1).toNat (0,0,0,())).1) ([],[],0,[],())).2.1) False)))
def qT.q7 (p0:List (cz).den)(p1:List (aU).den)(p2:Int)(p3:Prop):Prop:=(0<=(p0.getD p2.toNat (0,0,0,())).1/\(p0.getD p2.toNat (0,0,0,())).1<(↑p1.length:Int))/\List.length (p1.getD (Int.toNat (p0.getD p2.toNat (0,0,0,())).1) ([],[],0,[],())).1<=1000/\List.length (p1.getD (Int.toNat (p0.getD p2.toNat (0,0,0,())).1) ([],[],0,[],())).2.1<=1000/\p3
def qT.q8 (p0:List (cz).den)(p1:List (aU).den):Prop:=(∃(a:Nat),1=(↑a:Int)+1/\a+1<=p0.length/\(∀(j:Nat),j<a->jOk p1 (mJ p0 j) (mJ p0 (j+1)))/\(p0.length-a)<1000000)/\∀(a:Nat),a+1<=p0.length->(∀(j:Nat),j<a->jOk p1 (mJ p0 j) (mJ p0 (j+1)))->aS (decide ((↑a:Int)+1<(↑p0.length:Int))) (dw ((↑a:Int)+1-1)/\(0<=(↑a:Int)+1-1/\(↑a:Int)+1-1<(↑p0.length:Int))/\(0<=(↑a:Int)+1/\(↑a:Int)+1<(↑p0.length:Int))/\qT.q7 p0 p1 ((↑a:Int)+1-1) (qT.q7 p0 p1 ((↑a:Int)+1) (aS (decide ((p0.getD ((↑a:Int)+1-1).toNat (0,0,0,())).2.1=0)) (qT.q4 p0 a p1 (p1.getD (Int.toNat (p0.getD ((↑a:Int)+1-1).toNat (0,0,0,())).1) ([],[],0,[],())).2.1) (aS (decide ((p0.getD ((↑a:Int)+1-1).toNat (0,0,0,())).2.1=1)) (qT.q6 p0 a p1 (p1.getD (Int.toNat (p0.getD ((↑a:Int)+1-1).toNat (0,0,0,())).1) ([],[],0,[],())).1) (aS (decide ((p0.getD ((↑a:Int)+1-1).toNat (0,0,0,())).2.1=2)) (qT.q6 p0 a p1 (p1.getD (Int.toNat (p0.getD ((↑a:Int)+1-1).toNat (0,0,0,())).1) ([],[],0,[],())).2.1) (aS (decide ((p0.getD ((↑a:Int)+1-1).toNat (0,0,0,())).2.1=3)) (qT.q4 p0 a p1 (p1.getD (Int.toNat (p0.getD ((↑a:Int)+1-1).toNat (0,0,0,())).1) ([],[],0,[],())).1) False)))/\aS (decide ((C6 p1 (mJ p0 ((↑a:Int)+1-1).toNat) (mJ p0 ((↑a:Int)+1).toNat)).2.2<3)) (∃(x:Int),(↑a:Int)+1=x/\(0:Int)=0/\Brk p1 p0 x/\True) (dw ((C6 p1 (mJ p0 ((↑a:Int)+1-1).toNat) (mJ p0 ((↑a:Int)+1).toNat)).2.1-(C6 p1 (mJ p0 ((↑a:Int)+1-1).toNat) (mJ p0 ((↑a:Int)+1).toNat)).1)/\dw ((p1.getD (Int.toNat (p0.getD ((↑a:Int)+1-1).toNat (0,0,0,())).1) ([],[],0,[],())).2.2.1+(p1.getD (Int.toNat (p0.getD ((↑a:Int)+1).toNat (0,0,0,())).1) ([],[],0,[],())).2.2.1)/\aS (decide ((C6 p1 (mJ p0 ((↑a:Int)+1-1).toNat) (mJ p0 ((↑a:Int)+1).toNat)).2.1-(C6 p1 (mJ p0 ((↑a:Int)+1-1).toNat) (mJ p0 ((↑a:Int)+1).toNat)).1>(p1.getD (Int.toNat (p0.getD ((↑a:Int)+1-1).toNat (0,0,0,())).1) ([],[],0,[],())).2.2.1+(p1.getD (Int.toNat (p0.getD ((↑a:Int)+1).toNat (0,0,0,())).1) ([],[],0,[],())).2.2.1)) (∃(x:Int),(↑a:Int)+1=x/\(0:Int)=0/\Brk p1 p0 x/\True) (dw ((↑a:Int)+1+1)/\∃(x:Nat),p1=p1/\p0=p0/\(↑a:Int)+1+1=(↑x:Int)+1/\x+1<=p0.length/\(∀(j:Nat),j<x->jOk p1 (mJ p0 j) (mJ p0 (j+1)))/\(p0.length-x)<(p0.length-a)))))) (∃(a:Int),(-1:Int)=a/\(0:Int)=0/\Brk p1 p0 a/\True)
end Go.Tv
