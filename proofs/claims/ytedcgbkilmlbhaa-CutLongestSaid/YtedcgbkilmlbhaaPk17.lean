import Derived.Test.YtedcgbkilmlbhaaPk16
set_option maxRecDepth 100000
namespace Go.Tv
open Go Go.Di Go.Proofs
theorem aa0{x y:ax}:(x.1==y.1&&(x.2.1==y.2.1&&(x.2.2.1==y.2.2.1&&true)))=true↔x=y:=by obtain⟨u,l,s,c⟩:=x;obtain⟨u2,l2,s2,c2⟩:=y;simp
def adK:List TV->Dn
 |[.sl (.pair (.int .i64) (.pair (.int .i64) (.pair (.int .i64) .unit))) l .no,.sl (.pair (.int .i64) (.pair (.int .i64) (.pair (.int .i64) .unit))) m .no]=>some ([l.length<=1000,m.length<=1000],.ex Bool λb=>.res (nW b) [] [b=true↔l=m],
  [(4,.ex Nat λi=>.ex Bool λb=>.st {sl:=[(5,nW b),(6,bI i)],en:=[i<=l.length,b=true↔(l.length=m.length/\l.take i=m.take i)],m:=l.length-i})])
 |_=>none
def TQ.q1 (p0 p1:List ax)(p2 p3:Bool)(p4:Int)(p5 p6:Nat):Prop:=p2=p3/\p4=(↑p5:Int)/\p5<=p0.length/\(p3=true↔p0.length=p1.length/\List.take p5 p0=List.take p5 p1)/\(p0.length-p5)<p6
theorem TQ:VI T0 Try.f22 [some .bool] adK:=by
 refine gz λa=>?_;unfold adK;split
 rotate_left
 .trivial
 rename_i l m;intro hp;change List ax at l m;refine nS (A:=(∃(a:Nat),∃(x:Bool),TQ.q1 l m ((↑l.length:Int)==(↑m.length:Int)) x (0:Int) a 1000000)/\∀(a:Nat)(x:Bool),a<=l.length->(x=true↔l.length=m.length/\List.take a l=List.take a m)->aO x (aO (decide ((↑a:Int)<(↑l.length:Int))) ((0<=(↑a:Int)/\(↑a:Int)<(↑l.length:Int))/\(0<=(↑a:Int)/\(↑a:Int)<(↑m.length:Int))/\dQ ((↑a:Int)+1)/\∃(y:Nat),∃(z:Bool),l=l/\m=m/\false=false/\TQ.q1 l m ((l.getD a (0,0,0,())).1==(m.getD a (0,0,0,())).1&&((l.getD a (0,0,0,())).2.1==(m.getD a (0,0,0,())).2.1&&((l.getD a (0,0,0,())).2.2.1==(m.getD a (0,0,0,())).2.2.1&&true))) z ((↑a:Int)+1) y (l.length-a)) (∃(a:Bool),x=a/\(a=true↔l=m)/\True)) (∃(a:Bool),x=a/\(a=true↔l=m)/\True)) (by kernel_rfl) ?_;unfold TQ.q1;obtain⟨h1,h2,-⟩:=hp;refine⟨⟨0,_,rfl,rfl,by omega,by simp;omega,by first|omega|(dsimp only;omega)⟩,λi b h3 h4=>lB.2 ⟨λh5=>dz.2 ⟨λh6=>?_,λh6=>⟨_,rfl,?_,trivial⟩⟩,λh5=>⟨_,rfl,?_,trivial⟩⟩⟩;· have h5:=h4.1 h5;refine⟨⟨by omega,by omega⟩,⟨by omega,by omega⟩,⟨by omega,by omega⟩,i+1,_,rfl,rfl,rfl,rfl,by omega,by omega,?_,by first|omega|(dsimp only;omega)⟩;rw[aa0,nF gB (by omega),nF gB (by omega)];refine⟨λh=>⟨h5.1,by rw[h5.2,h]⟩,λh=>?_⟩;have:=List.append_inj_right' h.2 rfl;simpa using this
 .have h5:=h4.1 h5;have e1:=h5.2;rw[List.take_of_length_le (by omega),List.take_of_length_le (by omega)]at e1;rw[h4];exact⟨λ_=>e1,λh=>h5⟩
 subst h5;rw[h4];refine⟨λh=>absurd (h4.2 h) (by decide),λh=>?_⟩;subst h;exact absurd (h4.2 ⟨rfl,rfl⟩) (by decide)
def Zy:List TV->Dn
 |[.sl (.pair (.sl (.int .i64)) (.pair (.sl (.int .i64)) (.pair (.int .i64) (.pair (.sl (.int .i64)) .unit)))) l .no,.val (.int .i64 a),.val (.int .i64 b)]=>some ([l.length<=4,∀p∈l,gX p,0<=a,a<l.length,0<=b,b<l.length,a≠b],.ex (List ax) λs=>.res (.tup [.sl bV s .no,bI 0]) [] [s=ct (l.getD a.toNat dP) (l.getD b.toNat dP)],[])
 |_=>none
def ow.q1 (p0:bH.den)(p1:Prop):Prop:=List.reverse p0=List.reverse p0/\p1
def ow.q2 (p0:bH.den):Prop:=p0=p0
def ow.q3 (p0:List PD)(p1:Int)(p2:Prop):Prop:=ow.q2 (p0.getD p1.toNat ([],[],0,[],())).1/\ow.q2 (p0.getD p1.toNat ([],[],0,[],())).2.1/\ow.q1 (p0.getD p1.toNat ([],[],0,[],())).2.1 (ow.q1 (p0.getD p1.toNat ([],[],0,[],())).1 (ow.q1 (p0.getD p1.toNat ([],[],0,[],())).1 (ow.q1 (p0.getD p1.toNat ([],[],0,[],())).2.1 (ow.q2 (p0.getD p1.toNat ([],[],0,[],())).2.1/\ow.q2 (p0.getD p1.toNat ([],[],0,[],())).1/\p2))))
def ow.q4 (p0:List PD)(p1:Int):Prop:=Ok (p0.getD p1.toNat ([],[],0,[],())).1 (p0.getD p1.toNat ([],[],0,[],())).2.1 (p0.getD p1.toNat ([],[],0,[],())).2.2.1 (p0.getD p1.toNat ([],[],0,[],())).2.2.2.1
def ow.q5 (p0:List PD)(p1:Int)(p2:Prop):Prop:=(0<=p1/\p1<(↑p0.length:Int))/\List.length (p0.getD p1.toNat ([],[],0,[],())).fst<=1000/\List.length (p0.getD p1.toNat ([],[],0,[],())).snd.fst<=1000/\p2
theorem ow:VI F2 Try.f11 [some (.sl bV),some cn] Zy:=by
 refine gz λa=>?_;unfold Zy;split
 rotate_left
 .trivial
 rename_i l x y;intro hp;change List PD at l;refine nS (A:=l.length<=4/\(∀(p:(aW).den),p∈l->iA p)/\iK l=0/\0<=x/\x<(↑l.length:Int)/\0<=y/\y<(↑l.length:Int)/\x≠y/\ow.q5 l x (ow.q5 l y (ow.q4 l x/\ow.q4 l y/\ow.q3 l x (ow.q3 l y (∃(a:List ax),aC (l.getD x.toNat ([],[],0,[],())).1 (l.getD x.toNat ([],[],0,[],())).2.1 (l.getD x.toNat ([],[],0,[],())).2.2.2.1 (l.getD y.toNat ([],[],0,[],())).1 (l.getD y.toNat ([],[],0,[],())).2.1 (l.getD y.toNat ([],[],0,[],())).2.2.2.1 ((l.getD x.toNat ([],[],0,[],())).2.2.1+(l.getD y.toNat ([],[],0,[],())).2.2.1)=a/\(0:Int)=0/\a=ct (l.getD x.toNat dP) (l.getD y.toNat dP)/\True))))) (by kernel_rfl) ?_;unfold ow.q5 ow.q4 ow.q3 ow.q2 ow.q1;obtain⟨h1,h2,h3,h4,h5,h6,h7,-⟩:=hp;have o1:gX (l.getD x.toNat dP):=bX (by omega) h2;have o2:gX (l.getD y.toNat dP):=bX (by omega) h2;have s1:=DT o1;have s2:=DT o2;simp only[eq_self,true_and,and_true];exact⟨h1,λp hp=>DT (h2 p hp),Dc h2,h3,h4,h5,h6,h7,⟨h3,h4⟩,s1.1,s1.2.1,⟨h5,h6⟩,s2.1,s2.2.1,o1,o2,_,rfl,rfl⟩
abbrev dh(st:List ax):ax:=st.getD (st.length-1) gB
def cF(l:List PD)(st:List ax)(i:Nat):List ax:=if st.length=0 then(qL l i).map λn=>((i:Int),n,0,())else((ct (l.getD (dh st).1.toNat dP) (l.getD i dP)).filter λs=>s.1==(dh st).2.1).map λs=>((i:Int),s.2.1,s.2.2.1,())
def allI(l:List PD)(st:List ax)(i:Nat):List ax:=(List.range i).flatMap λ(i:Nat)=>if gE st (i:Int)then[]else cF l st i
def oN(l:List PD):Nat->List ax->Int
 |0,_=>1
 |r+1,st=>((allI l st l.length).map λx=>oN l r (st++[x])).sum
def rN(l:List PD):Nat->List ax->List ax->List ax
 |0,st,b=>kF st b
 |r+1,st,b=>(allI l st l.length).foldl (λb x=>rN l r (st++[x]) b) (kF st b)
def ru(l:List PD)(st:List ax)(ns:List ax):Int:=(ns.map λx=>oN l (l.length-st.length-1) (st++[x])).sum
def eZ(l:List PD)(st:List ax)(ns:List ax)(c:List ax):List ax:=ns.foldl (λb x=>rN l (l.length-st.length-1) (st++[x]) b) c
section
variable {l:List PD} {st b:List ax} {i y:Nat}
theorem Hl{k:Nat}(h:k<st.length){x:Int}:gE (st.take (k+1)) x=(gE (st.take k) x||((st.getD k gB).1==x)):=by rw[nF gB h];unfold gE;rw[List.any_append];simp
theorem G3(hl:∀p∈l,gX p)(hi:i<l.length)(hS:nD l st){x:ax}(h:x∈cF l st i):x.1=(i:Int)/\0<=x.2.1/\x.2.1<=3:=by
 have oi:gX (l.getD i dP):=bX hi hl;unfold cF at h;split at h;· rw[dL]at h;obtain⟨n,hn,rfl⟩:=h;exact⟨rfl,oi.yw n hn⟩
 rename_i h0;rw[dL]at h;obtain⟨s,hs,rfl⟩:=h;have hx:=hS (dh st) (bX (P:=λx=>x∈st) (by omega) λ_ h=>h);exact⟨rfl,(A8 (bX (by have:=hx.1;omega) hl) oi ((List.mem_filter.1 hs).1)).2⟩
theorem Bi(hl:∀p∈l,gX p)(hi:i<l.length)(hS:nD l st):(cF l st i).length<=272:=by
 have oi:gX (l.getD i dP):=bX hi hl;unfold cF;split;· rw[List.length_map];exact bp (Gk hl) (by omega)
 rename_i h0;have hx:=hS (dh st) (bX (P:=λx=>x∈st) (by omega) λ_ h=>h);rw[List.length_map];exact bp (we ..) (wz (bX (by have:=hx.1;omega) hl) oi)
theorem sJ:allI l st (i+1)=allI l st i++(if gE st (i:Int)then[]else cF l st i):=by unfold allI;rw[j4,List.flatMap_append];simp
theorem EL(hl:∀p∈l,gX p)(hS:nD l st):∀i,i<=l.length->(allI l st i).length<=i*272
 |0,_=>by simp[allI]
 |i+1,hi=>by
  have ih:=EL hl hS i (by omega);rw[sJ,cD];have:(if gE st (i:Int)then[]else cF l st i).length<=272:=by
   split;· simp
   exact Bi hl (by omega) hS
  omega
theorem L0{x:ax}(h:x∈allI l st i):∃k<i,gE st (k:Int)=false/\x∈cF l st k:=by
 unfold allI at h;rw[nN]at h;obtain⟨k,hk,h1⟩:=h;rw[o5]at hk;split at h1;· cases h1
 rename_i hn;exact⟨k,hk,by simpa using hn,h1⟩
theorem C5(hl:∀p∈l,gX p)(hi:i<l.length)(hS:nD l st){x:ax}(h:x∈cF l st i):nD l (st++[x]):=λz hz=>by
 rcases dX.1 hz with hz|hz;· exact hS z hz
 rw[bC]at hz;subst hz;obtain⟨e,h1⟩:=G3 hl hi hS h;exact⟨⟨by omega,by omega⟩,h1⟩
theorem Nd{g:ax->Int}{m:Int}:∀(ns:List ax),(∀x∈ns,0<=g x/\g x<=m)->0<=(ns.map g).sum/\(ns.map g).sum<=(ns.length:Int)*m
 |[],_=>by simp
 |x::ns,h=>by
  have ih:=Nd ns λz hz=>h z (by simp[hz]);have h1:=h x (by simp);rw[aV,List.sum_cons,dw]
  push_cast
  rw[Int.add_mul];omega
theorem QA(hl:∀p∈l,gX p)(h3:l.length<=3):∀(r:Nat)(st:List ax),nD l st->0<=oN l r st/\oN l r st<=816^r
 |0,st,_=>by simp[oN]
 |r+1,st,hS=>by
  have h:=Nd (g:=λx=>oN l r (st++[x])) (m:=816^r) (allI l st l.length) λx hx=>by obtain⟨k,hk,-,hx⟩:=L0 hx;exact QA hl h3 r _ (C5 hl hk hS hx)
  have hn:=EL hl hS l.length (aj _);have h1:((allI l st l.length).length:Int)*816^r<=816*816^r:=Dh (by omega) (Int.pow_nonneg (by omega));rw[oN];refine⟨h.1,oZ h.2 (oZ h1 ?_)⟩;rw[Int.pow_succ];omega
theorem Jo(hl:∀p∈l,gX p)(h3:l.length<=3){r:Nat}(hr:r<=2)(hS:nD l st):0<=oN l r st/\oN l r st<=665856:=by
 have h:=QA hl h3 r st hS;refine⟨h.1,oZ h.2 ?_⟩;have:r=0\/r=1\/r=2:=by omega
 rcases this with rfl|rfl|rfl<;>decide
theorem Z0(hl:∀p∈l,gX p)(h3:l.length<=3)(hS:nD l st)(hr:l.length-st.length-1<=2)(hi:i<l.length):0<=ru l st (allI l st i++(cF l st i).take y)/\ru l st (allI l st i++(cF l st i).take y)<=1088*665856:=by
 have h:=Nd (g:=λx=>oN l (l.length-st.length-1) (st++[x])) (m:=665856) (allI l st i++(cF l st i).take y) λx hx=>by
  rcases dX.1 hx with hx|hx;· obtain⟨k,hk,-,hx⟩:=L0 hx;exact Jo hl h3 hr (C5 hl (by omega) hS hx)
  exact Jo hl h3 hr (C5 hl hi hS (vY hx))
 have h1:=EL hl hS i (by omega);have h2:=Bi hl hi hS;rw[cD,List.length_take]at h;unfold ru;refine⟨h.1,oZ h.2 (Dh (by omega) (by omega))⟩
theorem Wl{a c:List ax}:ru l st (a++c)=ru l st a+ru l st c:=by unfold ru;rw[dW,List.sum_append]
theorem Wj{x:ax}:ru l st [x]=oN l (l.length-st.length-1) (st++[x]):=by simp[ru]
theorem Hp{a c:List ax}{x:List ax}:eZ l st (a++c) x=eZ l st c (eZ l st a x):=by unfold eZ;rw[mE]
theorem LB:∀(r:Nat){m:Nat}{st b:List ax},b.length<=m->st.length+r<=m->(rN l r st b).length<=m
 |0,m,st,b,hb,hs=>sA hb (by omega)
 |r+1,m,st,b,hb,hs=>by
  rw[rN];have h0:(kF st b).length<=m:=sA hb (by omega)
  revert h0
  generalize kF st b=c;generalize allI l st l.length=ns;induction ns generalizing c with
  |nil=>exactλh=>h
  |cons p ns ih=>intro h;exact ih _ (LB r h (by rw[cD,qV];omega))
theorem Ho{m:Nat}{ns:List ax}:∀{c:List ax},c.length<=m->st.length+1+(l.length-st.length-1)<=m->(eZ l st ns c).length<=m:=by
 induction ns with
 |nil=>exactλh _=>h
 |cons p ns ih=>intro c h hm;exact ih (LB _ h (by rw[cD,qV];omega)) hm
end
def BJ(te:List TV)(tS:List TB)(k:List PD->List ax->List ax->LA):LA:=
 match te,tS with
 |.sl (.pair (.sl (.int .i64)) (.pair (.sl (.int .i64)) (.pair (.int .i64) (.pair (.sl (.int .i64)) .unit)))) l _::.sl (.pair (.int .i64) (.pair (.int .i64) (.pair (.int .i64) .unit))) st _::_,.cells [.sl (.pair (.int .i64) (.pair (.int .i64) (.pair (.int .i64) .unit))) b _]::_=>k l st b
 |_,_=>.un 0
def Um(n:Nat):List TV->List (List TV)->Dn
 |[.sl (.pair (.sl (.int .i64)) (.pair (.sl (.int .i64)) (.pair (.int .i64) (.pair (.sl (.int .i64)) .unit)))) l .no,.sl (.pair (.int .i64) (.pair (.int .i64) (.pair (.int .i64) .unit))) st .no,.ptr 0 0],[[.sl (.pair (.int .i64) (.pair (.int .i64) (.pair (.int .i64) .unit))) b .no]]=>
  some ([l.length<=3,∀p∈l,gX p,nD l st,(st.map (·.1)).Nodup,l.length<st.length+n,b.length<=1000],.res (.tup [bI (oN l (l.length-st.length) st),nW true]) [.agg [.sl bV (rN l (l.length-st.length) st b) .no]] [],
  [(1,.dep λte tS=>BJ te tS λ_ st b=>.ex (List ax) λc=>.st {sl:=[],pl:=[(0,[.sl bV c .no])],en:=[c=kF st b]}),
   (9,.dep λte tS=>BJ te tS λl st c=>.ex Nat λi=>.ex Int λn=>.st {sl:=[(8,bI n),(9,bI i)],pl:=[(0,[.sl bV (eZ l st (allI l st i) c) .no])],en:=[i<=l.length,n=ru l st (allI l st i)],m:=l.length-i}),
   (16,.dep λte tS=>BJ te tS λl st c=>nY te 9 λi=>.ex Nat λk=>.ex Bool λo=>.st {sl:=[(10,nW o),(11,bI k)],en:=[k<=st.length,o=!gE (st.take k) (i:Int)],m:=st.length-k}),
   (23,.dep λte tS=>BJ te tS λl st c=>nY te 9 λi=>.ex (List ax) λN=>.st {sl:=[(12,.sl bV N .no)],en:=[N=cF l st i]}),
   (26,.dep λte tS=>BJ te tS λl st c=>nY te 9 λi=>.ex Nat λy=>.st {sl:=[(12,.sl bV (((qL l i).take y).map λn=>((i:Int),n,0,())) (.kA tS.length)),(13,bI y)],own:=[(81,3)],en:=[y<=(qL l i).length],m:=(qL l i).length-y}),
   (31,.dep λte tS=>BJ te tS λl st c=>nY te 9 λi=>.ex (List ax) λs=>.st {sl:=[(15,.sl bV s .no),(16,bI 0)],en:=[s=ct (l.getD (dh st).1.toNat dP) (l.getD i dP)]}),
   (36,.dep λte tS=>BJ te tS λl st c=>nY te 9 λi=>.ex Nat λy=>.st {sl:=[(12,.sl bV ((((ct (l.getD (dh st).1.toNat dP) (l.getD i dP)).take y).filter λs=>s.1==(dh st).2.1).map λs=>((i:Int),s.2.1,s.2.2.1,())) (.kA tS.length)),(17,bI y)],own:=[(81,3)],en:=[y<=(ct (l.getD (dh st).1.toNat dP) (l.getD i dP)).length],m:=(ct (l.getD (dh st).1.toNat dP) (l.getD i dP)).length-y}),
   (42,.dep λte tS=>BJ te tS λl st c=>nY te 9 λi=>.ex Nat λy=>.st {sl:=[(8,bI (ru l st (allI l st i++(cF l st i).take y))),(18,bI y)],pl:=[(0,[.sl bV (eZ l st ((cF l st i).take y) c) .no])],en:=[y<=(cF l st i).length],m:=(cF l st i).length-y})])
 |_,_=>none
noncomputable def G21 (n:Nat):fQ:=(T0.eV 11 λa=>dS (Zy a)).DC 21 λa t=>dS (Um n a t)
def fB.q1 (p0:cn.den):Prop:=p0=p0
def fB.q2 (p0:List ax)(p1:Prop):Prop:=fB.q1 (p0.getD ((↑p0.length:Int)-1).toNat (0,0,0,())).1/\fB.q1 (p0.getD ((↑p0.length:Int)-1).toNat (0,0,0,())).2.1/\fB.q1 (p0.getD ((↑p0.length:Int)-1).toNat (0,0,0,())).2.2.1/\p1
def fB.q3 (p0:Nat)(p1:List PD)(p2:List ax)(p3:Int)(p4:Nat)(p5:Bool)(p6:Nat)(p7 p8:List ax)(p9:List bV.den):Prop:=dQ ((↑p0:Int)+1)/\∃(a:Nat),p1=p1/\p2=p2/\p3=p3/\(↑p4:Int)=(↑p4:Int)/\p5=p5/\(↑p6:Int)=(↑p6:Int)/\p9=List.map (λ(s:ax)=>((↑(↑p4:Int).toNat:Int),s.2.1,s.2.2.1,())) (List.filter (λ(s:ax)=>s.1==(dh p2).2.1) (List.take a (ct (p1.getD (dh p2).1.toNat dP) (p1.getD p4 dP))))/\p7=p7/\(0:Int)=0/\(↑p0:Int)+1=(↑a:Int)/\(↑p4:Int)=(↑p4:Int)/\p1=p1/\(↑p1.length:Int)=(↑p1.length:Int)/\true=true/\(↑p6:Int)=(↑p6:Int)/\p2=p2/\(↑p2.length:Int)=(↑p2.length:Int)/\false=false/\p5=p5/\false=false/\p2=p2/\(↑p2.length:Int)=(↑p2.length:Int)/\false=false/\p2=p2/\p2=p2/\(↑p2.length:Int)=(↑p2.length:Int)/\(↑p2.length:Int)-1=(↑p2.length:Int)-1/\p2=p2/\((↑p2.length:Int)-1).toNat=((↑p2.length:Int)-1).toNat/\0=0/\fB.q2 p2 ((0:Int)=0/\false=false/\false=false/\p7=p7/\(↑p7.length:Int)=(↑p7.length:Int)/\decide ((↑p7.length:Int)>300)=decide ((↑p7.length:Int)>300)/\false=false/\eZ p1 p2 (allI p1 p2 p4) p8=eZ p1 p2 (allI p1 p2 p4) p8/\fB.q2 p2 (a<=(ct (p1.getD (dh p2).1.toNat dP) (p1.getD p4 dP)).length/\((ct (p1.getD (dh p2).1.toNat dP) (p1.getD p4 dP)).length-a)<((ct (p1.getD (dh p2).1.toNat dP) (p1.getD p4 dP)).length-p0)))
def fB.q4 (p0:Nat)(p1:List PD)(p2:Nat)(p3:List ax)(p4:Bool)(p5:Prop):Prop:=(↑p0:Int)=(↑p0:Int)/\p1=p1/\(↑p1.length:Int)=(↑p1.length:Int)/\true=true/\(↑p2:Int)=(↑p2:Int)/\p3=p3/\(↑p3.length:Int)=(↑p3.length:Int)/\false=false/\p4=p4/\false=false/\p5
def fB.q5 (p0:Nat)(p1:List PD)(p2:List ax)(p3:Int)(p4:Nat)(p5:List ax)(p6 p7:Bool):Prop:=dQ ((↑p0:Int)+1)/\∃(a:Nat),∃(x:Bool),p1=p1/\p2=p2/\p3=p3/\(↑p4:Int)=(↑p4:Int)/\p7=x/\(↑p0:Int)+1=(↑a:Int)/\(↑p4:Int)=(↑p4:Int)/\p1=p1/\(↑p1.length:Int)=(↑p1.length:Int)/\true=true/\eZ p1 p2 (allI p1 p2 p4) p5=eZ p1 p2 (allI p1 p2 p4) p5/\a<=p2.length/\x=!gE (List.take a p2) (↑p4:Int)/\(p2.length-a)<(p2.length-p0)
def fB.q6 (p0:Nat)(p1:List PD)(p2 p3:List ax)(p4 p5:Int)(p6 p7:List ax):Prop:=dQ ((↑p0:Int)+1)/\∃(a:Nat),∃(x:Int),p1=p1/\p2=p2/\p5=x/\(↑p0:Int)+1=(↑a:Int)/\eZ p1 p2 p6 p7=eZ p1 p2 (allI p1 p2 a) p3/\a<=p1.length/\x=ru p1 p2 (allI p1 p2 a)/\(p1.length-a)<(p1.length-p0)
def fB.q7 (p0:cn.den):Prop:=p0=p0
def fB.q8 (p0:List ax)(p1:Prop):Prop:=fB.q7 (p0.getD ((↑p0.length:Int)-1).toNat (0,0,0,())).1/\fB.q7 (p0.getD ((↑p0.length:Int)-1).toNat (0,0,0,())).2.1/\fB.q7 (p0.getD ((↑p0.length:Int)-1).toNat (0,0,0,())).2.2.1/\p1
def fB.q9 (p0:Nat->List bV.den)(p1 p2 p3:Nat):Prop:=∃(a:Nat),[]=p0 a/\0=(↑a:Int)/\a<=p1/\(p1-a)<1000000
def fB.YH (p0 p1:Nat)(p2:Prop):Prop:=(0<=(↑p0:Int)/\(↑p0:Int)<(↑p1:Int))/\p2
theorem fB(n:Nat):VM (G21 n) Try.f21 [some cn,some .bool] (Um (n+1)):=by
 refine Uo λa t=>?_;unfold Um;split
 rotate_left
 .trivial
 rename_i l st b;intro hp;change List PD at l;change List ax at st b;refine nS (A:=aO (decide ((↑st.length:Int)>(↑b.length:Int))) ((0+st.length<=1000000000/\(0=0\/st.length≠0))/\∃(a:List ax),l=l/\st=st/\(0:Int)=0/\false=false/\st=a/\a=kF st b/\True) (∃(a:List ax),l=l/\st=st/\(0:Int)=0/\false=false/\b=a/\a=kF st b/\True)/\∀(a:List ax),a=kF st b->aO ((↑st.length:Int)==(↑l.length:Int)) (1=oN l (l.length-st.length) st/\true=true/\a=rN l (l.length-st.length) st b/\True) ((∃(y:Nat),∃(r:Int),0=r/\0=(↑y:Int)/\a=eZ l st (allI l st y) a/\y<=l.length/\r=ru l st (allI l st y)/\(l.length-y)<1000000)/\∀(y:Nat)(r:Int),y<=l.length->r=ru l st (allI l st y)->aO (decide ((↑y:Int)<(↑l.length:Int))) ((∃(a:Nat),∃(v:Bool),true=v/\0=(↑a:Int)/\a<=st.length/\v=!gE (List.take a st) (↑y:Int)/\(st.length-a)<1000000)/\∀(v:Nat)(w:Bool),v<=st.length->w=!gE (List.take v st) (↑y:Int)->aO (decide ((↑v:Int)<(↑st.length:Int))) (aO w (fB.YH v st.length (fB.q5 v l st r y a w ((st.getD v (0,0,0,())).1 !=(↑y:Int)))) (fB.q5 v l st r y a w false)) (aO (!w) (fB.q6 y l st a r r (allI l st y) a) (aO ((↑st.length:Int)==0) (fB.q9 (λ(a:Nat)=>List.map (λ(n:cn.den)=>((↑(↑y:Int).toNat:Int),n,(0:cn.den),())) (List.take a (qL l y))) (qL l y).length 1 13/\∀(u:Nat),u<=(qL l y).length->fB.YH y l.length (aO (decide ((↑u:Int)<(↑(List.length (l.getD y ([],[],0,[],())).2.2.2.1):Int))) (fB.YH y l.length (fB.YH u (List.length (l.getD y ([],[],0,[],())).2.2.2.1) ((List.map (λ(n:cn.den)=>((↑(↑y:Int).toNat:Int),n,(0:cn.den),())) (List.take u (qL l y))).length+1<=1000000000/\dQ ((↑u:Int)+1)/\∃(z:Nat),l=l/\st=st/\r=r/\(↑y:Int)=(↑y:Int)/\w=w/\(↑v:Int)=(↑v:Int)/\List.map (λ(n:cn.den)=>((↑(↑y:Int).toNat:Int),n,(0:cn.den),())) (List.take u (qL l y))++[((↑y:Int),List.getD (l.getD y ([],[],0,[],())).2.2.2.1 u (0:Int),(0:Int),())]=List.map (λ(n:cn.den)=>((↑(↑y:Int).toNat:Int),n,(0:cn.den),())) (List.take z (qL l y))/\(↑u:Int)+1=(↑z:Int)/\fB.q4 y l v st w (st=st/\(↑st.length:Int)=(↑st.length:Int)/\true=true/\eZ l st (allI l st y) a=eZ l st (allI l st y) a/\z<=(qL l y).length/\((qL l y).length-z)<((qL l y).length-u))))) (∃(z:List ax),l=l/\st=st/\r=r/\(↑y:Int)=(↑y:Int)/\w=w/\(↑v:Int)=(↑v:Int)/\List.map (λ(n:cn.den)=>((↑(↑y:Int).toNat:Int),n,(0:cn.den),())) (List.take u (qL l y))=z/\fB.q4 y l v st w (eZ l st (allI l st y) a=eZ l st (allI l st y) a/\z=cF l st y/\True)))) (dQ ((↑st.length:Int)-1)/\(0<=(↑st.length:Int)-1/\(↑st.length:Int)-1<(↑st.length:Int))/\(l.length<=4/\(∀(p:(aW).den),p∈l->gX p)/\0<=(st.getD ((↑st.length:Int)-1).toNat (0,0,0,())).1/\(st.getD ((↑st.length:Int)-1).toNat (0,0,0,())).1<(↑l.length:Int)/\0<=(↑y:Int)/\(↑y:Int)<(↑l.length:Int)/\(st.getD ((↑st.length:Int)-1).toNat (0,0,0,())).1≠(↑y:Int)/\∀(u:List ax),u=ct (l.getD (Int.toNat (st.getD ((↑st.length:Int)-1).toNat (0,0,0,())).1) dP) (l.getD y dP)->∃(z:List ax),l=l/\st=st/\r=r/\(↑y:Int)=(↑y:Int)/\w=w/\(↑v:Int)=(↑v:Int)/\yE bV.den/\u=z/\(0:Int)=0/\fB.q4 y l v st w (st=st/\(↑st.length:Int)=(↑st.length:Int)/\false=false/\st=st/\st=st/\(↑st.length:Int)=(↑st.length:Int)/\(↑st.length:Int)-1=(↑st.length:Int)-1/\st=st/\((↑st.length:Int)-1).toNat=((↑st.length:Int)-1).toNat/\0=0/\fB.q8 st (eZ l st (allI l st y) a=eZ l st (allI l st y) a/\fB.q8 st (z=ct (l.getD (dh st).1.toNat dP) (l.getD y dP)/\True))))/\∀(u:List ax),u=ct (l.getD (dh st).1.toNat dP) (l.getD y dP)->aO (decide ((↑u.length:Int)>300)) (0=oN l (l.length-st.length) st/\false=true/\eZ l st (allI l st y) a=rN l (l.length-st.length) st b/\True) (fB.q9 (λ(a:Nat)=>List.map (λ(s:ax)=>((↑(↑y:Int).toNat:Int),s.2.1,s.2.2.1,())) (List.filter (λ(s:ax)=>s.1==(dh st).2.1) (List.take a (ct (l.getD (dh st).1.toNat dP) (l.getD y dP))))) (ct (l.getD (dh st).1.toNat dP) (l.getD y dP)).length 2 17/\∀(z:Nat),z<=(ct (l.getD (dh st).1.toNat dP) (l.getD y dP)).length->aO (decide ((↑z:Int)<(↑u.length:Int))) (fB.YH z u.length (aO ((u.getD z (0,0,0,())).1==(st.getD ((↑st.length:Int)-1).toNat (0,0,0,())).2.1) (fB.YH z u.length (fB.YH z u.length ((List.map (λ(s:ax)=>((↑(↑y:Int).toNat:Int),s.2.1,s.2.2.1,())) (List.filter (λ(s:ax)=>s.1==(dh st).2.1) (List.take z (ct (l.getD (dh st).1.toNat dP) (l.getD y dP))))).length+1<=1000000000/\fB.q3 z l st r y w v u a (List.map (λ(s:ax)=>((↑(↑y:Int).toNat:Int),s.2.1,s.2.2.1,())) (List.filter (λ(s:ax)=>s.1==(dh st).2.1) (List.take z (ct (l.getD (dh st).1.toNat dP) (l.getD y dP))))++[((↑y:Int),(u.getD z (0,0,0,())).2.1,(u.getD z (0,0,0,())).2.2.1,())])))) (fB.q3 z l st r y w v u a (List.map (λ(s:ax)=>((↑(↑y:Int).toNat:Int),s.2.1,s.2.2.1,())) (List.filter (λ(s:ax)=>s.1==(dh st).2.1) (List.take z (ct (l.getD (dh st).1.toNat dP) (l.getD y dP)))))))) (∃(t:List ax),l=l/\st=st/\r=r/\(↑y:Int)=(↑y:Int)/\w=w/\(↑v:Int)=(↑v:Int)/\List.map (λ(s:ax)=>((↑(↑y:Int).toNat:Int),s.2.1,s.2.2.1,())) (List.filter (λ(s:ax)=>s.1==(dh st).2.1) (List.take z (ct (l.getD (dh st).1.toNat dP) (l.getD y dP))))=t/\fB.q4 y l v st w (eZ l st (allI l st y) a=eZ l st (allI l st y) a/\t=cF l st y/\True))))/\∀(u:List ax),u=cF l st y->(∃(z:Nat),r=ru l st (allI l st y++List.take z (cF l st y))/\0=(↑z:Int)/\eZ l st (allI l st y) a=eZ l st (List.take z (cF l st y)) (eZ l st (allI l st y) a)/\z<=(cF l st y).length/\((cF l st y).length-z)<1000000)/\∀(z:Nat),z<=(cF l st y).length->aO (decide ((↑z:Int)<(↑u.length:Int))) (0+st.length<=1000000000/\fB.YH z u.length (st.length+1<=1000000000/\l.length<=3/\(∀(p:(aW).den),p∈l->gX p)/\nD l (st++[((u.getD z (0,0,0,())).1,(u.getD z (0,0,0,())).2.1,(u.getD z (0,0,0,())).2.2.1,())])/\(List.map (λ(x:(bV).den)=>x.1) (st++[((u.getD z (0,0,0,())).1,(u.getD z (0,0,0,())).2.1,(u.getD z (0,0,0,())).2.2.1,())])).Nodup/\l.length<(st++[((u.getD z (0,0,0,())).1,(u.getD z (0,0,0,())).2.1,(u.getD z (0,0,0,())).2.2.1,())]).length+n/\(eZ l st (List.take z (cF l st y)) (eZ l st (allI l st y) a)).length<=1000/\dQ (ru l st (allI l st y++List.take z (cF l st y))+oN l (l.length-(st++[((u.getD z (0,0,0,())).1,(u.getD z (0,0,0,())).2.1,(u.getD z (0,0,0,())).2.2.1,())]).length) (st++[((u.getD z (0,0,0,())).1,(u.getD z (0,0,0,())).2.1,(u.getD z (0,0,0,())).2.2.1,())]))/\dQ ((↑z:Int)+1)/\∃(t:Nat),l=l/\st=st/\ru l st (allI l st y++List.take z (cF l st y))+oN l (l.length-(st++[((u.getD z (0,0,0,())).1,(u.getD z (0,0,0,())).2.1,(u.getD z (0,0,0,())).2.2.1,())]).length) (st++[((u.getD z (0,0,0,())).1,(u.getD z (0,0,0,())).2.1,(u.getD z (0,0,0,())).2.2.1,())])=ru l st (allI l st y++List.take t (cF l st y))/\(↑y:Int)=(↑y:Int)/\w=w/\(↑v:Int)=(↑v:Int)/\u=u/\(↑z:Int)+1=(↑t:Int)/\fB.q4 y l v st w (rN l (l.length-(st++[((u.getD z (0,0,0,())).1,(u.getD z (0,0,0,())).2.1,(u.getD z (0,0,0,())).2.2.1,())]).length) (st++[((u.getD z (0,0,0,())).1,(u.getD z (0,0,0,())).2.1,(u.getD z (0,0,0,())).2.2.1,())]) (eZ l st (List.take z (cF l st y)) (eZ l st (allI l st y) a))=eZ l st (List.take t (cF l st y)) (eZ l st (allI l st y) a)/\t<=(cF l st y).length/\((cF l st y).length-t)<((cF l st y).length-z)))) (fB.q6 y l st a r (ru l st (allI l st y++List.take z (cF l st y))) (List.take z (cF l st y)) (eZ l st (allI l st y) a))))) (r=oN l (l.length-st.length) st/\true=true/\eZ l st (allI l st y) a=rN l (l.length-st.length) st b/\True))) (by kernel_rfl) ?_;unfold fB.YH fB.q9 fB.q8 fB.q7 fB.q6 fB.q5 fB.q4 fB.q3 fB.q2 fB.q1;obtain⟨h3,hl,hS,hN,hlt,hb,-⟩:=hp;have hle:=OW hS hN;simp only[dz,ek,fC,gF,eq_self,true_and,and_true,dQ,iX,fW,Int.toNat_natCast];refine⟨⟨λh=>⟨⟨by omega,.inl trivial⟩,_,rfl,by unfold kF;rw[if_pos (by omega)]⟩,λh=>⟨_,rfl,by unfold kF;rw[if_neg (by omega)]⟩⟩,λc hc=>⟨λe=>?_,λe=>?_⟩⟩;· rw[show l.length-st.length=0 by omega];exact⟨rfl,hc⟩
 have tY:c.length<=1000:=hc▸sA hb (by omega);have wM:l.length-st.length=(l.length-st.length-1)+1:=by omega
 refine⟨⟨0,0,rfl,rfl,rfl,by omega,rfl,by omega⟩,λi s0 hi hs0=>⟨λOK=>⟨⟨0,true,rfl,rfl,by omega,rfl,by omega⟩,λk o hk ho=>⟨λhkl=>lB.2 ⟨λh=>?_,λh=>?_⟩,λhkl=>lB.2 ⟨λh=>?_,λh=>?_⟩⟩⟩,λOK=>?_⟩⟩
 .refine⟨⟨by omega,by omega⟩,⟨by omega,by omega⟩,k+1,_,rfl,by omega,by omega,?_,by omega⟩;rw[h]at ho;have h0:gE (st.take k) (i:Int)=false:=by simpa using ho.symm
  rw[Hl (by omega),h0,Bool.false_or];rfl
 .refine⟨⟨by omega,by omega⟩,k+1,_,rfl,by omega,by omega,?_,by omega⟩;rw[h]at ho;have h0:gE (st.take k) (i:Int)=true:=by simpa using ho.symm
  rw[Hl (by omega),h0,Bool.true_or];rfl
 .rw[h,show k=st.length by omega,fW]at ho;have hh:gE st (i:Int)=false:=by simpa using ho.symm
  have JN:=Us hS hN (by omega) hh;have oi:gX (l.getD i dP):=bX (by omega) hl;have q4:(qL l i).length<=4:=Gk hl;refine⟨⟨λz=>⟨⟨0,rfl,rfl,by omega,by omega⟩,λy hy=>⟨⟨by omega,by omega⟩,λlX=>?_,λlX=>?_⟩⟩,λz=>?_⟩,λN hN'=>?_⟩;· have lX:y<(qL l i).length:=fK.1 lX;refine⟨⟨by omega,by omega⟩,⟨by omega,fK.2 lX⟩,by rw[List.length_map,List.length_take];omega,⟨by omega,by omega⟩,y+1,?_,by omega,by omega,by omega⟩;rw[nF 0 lX,dW];rfl
  .have lX:¬y<(qL l i).length:=λh=>lX (fK.2 h);refine⟨_,rfl,?_⟩;unfold cF;rw[if_pos (by omega),List.take_of_length_le (by omega)]
  .have hst:0<st.length:=by omega
   have e3:((st.length:Int)-1).toNat=st.length-1:=by omega
   have hm:dh st∈st:=bX (P:=λx=>x∈st) (by omega) λ_ h=>h;obtain⟨⟨p0,p1⟩,x0,x3⟩:=hS _ hm;have ol:gX (l.getD (dh st).1.toNat dP):=bX (by omega) hl;have sl:=wz ol oi;simp only[e3];refine⟨⟨by omega,by omega⟩,⟨by omega,by omega⟩,⟨by omega,hl,p0,p1,by omega,by omega,λe=>zQ hh (e▸List.mem_map_of_mem hm),λs hs=>⟨_,rfl,hs⟩⟩,λs hs=>?_⟩;subst hs;refine⟨λUd=>by omega,λ_=>⟨⟨0,rfl,rfl,by omega,by omega⟩,λy hy=>⟨λlX=>?_,λlX=>?_⟩⟩⟩
   .have lX:y<(ct (l.getD (dh st).1.toNat dP) (l.getD i dP)).length:=fK.1 lX;have tk:=nF gB lX;have ll:(List.map (λs:ax=>((i:Int),s.2.1,s.2.2.1,())) (List.filter (λs=>s.1==(dh st).2.1) (List.take y (ct (l.getD (dh st).1.toNat dP) (l.getD i dP))))).length<=272:=by rw[List.length_map];refine bp (we ..) ?_;rw[List.length_take];omega
    refine⟨⟨by omega,fK.2 lX⟩,λee=>⟨⟨by omega,fK.2 lX⟩,⟨by omega,fK.2 lX⟩,bp (Nat.succ_le_succ ll) (by omega),⟨by omega,by omega⟩,y+1,?_,by omega,by omega,by omega⟩,λee=>⟨⟨by omega,by omega⟩,y+1,?_,by omega,by omega,by omega⟩⟩;· rw[tk,tc,dW,List.filter_cons_of_pos (by simpa using ee)];rfl
    rw[tk,tc,dW,List.filter_cons_of_neg (by simpa using ee)];simp
   have lX:¬y<(ct (l.getD (dh st).1.toNat dP) (l.getD i dP)).length:=λh=>lX (fK.2 h);refine⟨_,rfl,?_⟩;unfold cF;rw[if_neg (by omega),List.take_of_length_le (by omega)]
  subst hN';have nl:=Bi hl (show i<l.length by omega) hS;refine⟨⟨0,by rw[List.take_zero,cV];exact hs0,rfl,rfl,by omega,by omega⟩,λy hy=>⟨λlX=>?_,λlX=>?_⟩⟩
  .have lX:y<(cF l st i).length:=fK.1 lX;have hm:(cF l st i).getD y gB∈cF l st i:=bX (P:=λx=>x∈cF l st i) lX λ_ h=>h;have tk:=nF gB lX
   revert tk hm
   show _->_->_;change(cF l st i).getD y gB∈cF l st i->List.take (y+1) (cF l st i)=List.take y (cF l st i)++[(cF l st i).getD y gB]->_;generalize hx:(cF l st i).getD y gB=x;intro hm tk;have ok:=C5 hl (show i<l.length by omega) hS hm;have e1:=(G3 hl (show i<l.length by omega) hS hm).1;have nd:((st++[x]).map (·.1)).Nodup:=wD hN (by rw[e1];exact hh);have hlen:(st++[x]).length=st.length+1:=by simp
   have Dv:l.length-(st.length+1)=l.length-st.length-1:=by omega
   obtain⟨b0,b1⟩:=Z0 (y:=y) hl h3 hS (by omega) (show i<l.length by omega);obtain⟨g0,g1⟩:=Jo hl h3 (show l.length-st.length-1<=2 by omega) ok;have ev:ru l st (allI l st i++List.take (y+1) (cF l st i))=ru l st (allI l st i++List.take y (cF l st i))+oN l (l.length-st.length-1) (st++[x]):=by rw[tk,<-iO,Wl,Wj]
   have ef:∀z,eZ l st (List.take (y+1) (cF l st i)) z=rN l (l.length-st.length-1) (st++[x]) (eZ l st (List.take y (cF l st i)) z):=λz=>by rw[tk,Hp];rfl
   have eta:((x.1,x.2.1,x.2.2.1,()):ax)=x:=rfl;simp only[eta,hlen,Dv];exact⟨by omega,⟨by omega,fK.2 lX⟩,by omega,h3,hl,ok,nd,by omega,Ho (Ho tY (by omega)) (by omega),⟨by omega,by omega⟩,⟨by omega,by omega⟩,y+1,ev.symm,by omega,(ef _).symm,by omega,by omega⟩
  have lX:¬y<(cF l st i).length:=λh=>lX (fK.2 h);have et:List.take y (cF l st i)=cF l st i:=List.take_of_length_le (by omega);have ea:allI l st (i+1)=allI l st i++cF l st i:=by rw[sJ,if_neg (by rw[hh];decide)]
  exact⟨⟨by omega,by omega⟩,i+1,_,rfl,by omega,by rw[ea,Hp,et],by omega,by rw[ea,et],by omega⟩
 .rw[h,show k=st.length by omega,fW]at ho;have hh:gE st (i:Int)=true:=by simpa using ho.symm
  refine⟨⟨by omega,by omega⟩,i+1,_,rfl,by omega,?_,by omega,?_,by omega⟩;· rw[sJ,if_pos hh,cV]
  rw[sJ,if_pos hh,cV];exact hs0
 have ei:i=l.length:=by omega
 subst ei;rw[wM,oN,rN,hc];exact⟨hs0,rfl⟩
end Go.Tv
namespace Go.Tv
open Go Go.Di Go.Proofs
section
variable {l:List PD} {F:Nat->List Int} {st yA b:List ax} {i k n r:Nat}
def pick(ss:List ax)(o u:Int):List Int:=(ss.filter λs=>s.1==o&&s.2.1==u).map λs=>s.2.2.1
theorem aaP{i o k u i' o' k' u':Nat}(h:tW i o k u=tW i' o' k' u')(ho:o<4)(hk:k<4)(hu:u<4)(mP:o'<4)(rq:k'<4)(hu':u'<4):i=i'/\o=o'/\k=k'/\u=u':=by unfold tW at h;omega
theorem SE{ss:List ax}{a c o k u:Nat}(hs:∀s∈ss,(0<=s.1/\s.1<=3)/\0<=s.2.1/\s.2.1<=3)(hc:c<4)(ho:o<4)(hk:k<4)(hu:u<4):∀{f:Nat->List Int},(ss.foldl (M4 a c) f) (tW i o k u)=f (tW i o k u)++(if i=a/\k=c then pick ss (o:Int) (u:Int)else[]):=by
 induction ss with
 |nil=>intro f;simp[pick]
 |cons s ss ih=>
  intro f;have h1:=hs s (by simp);rw[gu,ih λs JX=>hs s (by simp[JX])];have e:M4 a c f s (tW i o k u)=f (tW i o k u)++(if i=a/\k=c then(if s.1=(o:Int)/\s.2.1=(u:Int)then[s.2.2.1]else[])else[]):=by
   unfold M4 QM;split;.rename_i he;obtain⟨rfl,h2,rfl,h3⟩:=aaP he ho hk hu (by omega) hc (by omega);rw[if_pos ⟨rfl,rfl⟩,if_pos ⟨by omega,by omega⟩,he]
   rename_i he;split;.rename_i h2;obtain⟨rfl,rfl⟩:=h2;rw[if_neg,cV];rintro⟨e1,e2⟩;exact he (by rw[e1,e2];rfl)
   rw[cV]
  rw[e,iO];congr 1;split
  .unfold pick;rw[List.filter_cons];by_cases h2:s.1=(o:Int)/\s.2.1=(u:Int);.rw[if_pos h2,if_pos (by simp[h2.1,h2.2])];rfl
   rw[if_neg h2,if_neg (by simpa using h2),gQ]
  rfl
theorem aaz{f:Nat->List Int}{a c o k u:Nat}(hl:∀p∈l,gX p)(ha:a<l.length)(hc:c<l.length)(hc4:c<4)(ho:o<4)(hk:k<4)(hu:u<4):OC l f a c (ct (l.getD a dP) (l.getD c dP)).length (tW i o k u)=f (tW i o k u)++(if i=a/\k=c then pick (ct (l.getD a dP) (l.getD c dP)) (o:Int) (u:Int)else[]):=by unfold OC;rw[fW];exact SE (λs hs=>A8 (bX ha hl) (bX hc hl) hs) hc4 ho hk hu
theorem Qa{f:Nat->List Int}{a o k u:Nat}(hl:∀p∈l,gX p)(h4:l.length<=4)(ha:a<l.length)(ho:o<4)(hk:k<4)(hu:u<4):∀c,c<=l.length->Dk l f a c (tW i o k u)=f (tW i o k u)++(if i=a/\k<c/\a≠k then pick (ct (l.getD a dP) (l.getD k dP)) (o:Int) (u:Int)else[])
 |0,_=>by simp[Dk]
 |c+1,hc=>by
  have ih:=Qa (f:=f) hl h4 ha ho hk hu c (by omega);by_cases e:a=c
  .rw[Jf e,ih];congr 1;by_cases h1:i=a/\k<c/\a≠k;.rw[if_pos h1,if_pos ⟨h1.1,by omega,h1.2.2⟩]
   rw[if_neg h1,if_neg];rintro⟨h2,h3,h5⟩;exact h1 ⟨h2,by omega,h5⟩
  rw[Ns e,aaz hl ha (by omega) (by omega) ho hk hu,ih,iO];congr 1;by_cases h1:i=a
  .by_cases h2:k=c;.subst h2;rw[if_neg (by omega),if_pos ⟨h1,rfl⟩,if_pos ⟨h1,by omega,e⟩,gQ]
   by_cases h3:k<c/\a≠k;.rw[if_pos ⟨h1,h3⟩,if_neg (by omega),if_pos ⟨h1,by omega,h3.2⟩,cV]
   rw[if_neg (λh=>h3 h.2),if_neg (by omega),if_neg (λh=>h3 ⟨by omega,h.2.2⟩),cV]
  rw[if_neg (λh=>h1 h.1),if_neg (λh=>h1 h.1),if_neg (λh=>h1 h.1),cV]
theorem Qb{o k u:Nat}(hl:∀p∈l,gX p)(h4:l.length<=4)(ho:o<4)(hk:k<4)(hu:u<4):∀a,a<=l.length->BD l a (tW i o k u)=if i<a/\k<l.length/\i≠k then pick (ct (l.getD i dP) (l.getD k dP)) (o:Int) (u:Int)else[]
 |0,_=>by simp[BD]
 |a+1,ha=>by
  rw[Es,Qa hl h4 (by omega) ho hk hu l.length (aj _),Qb hl h4 ho hk hu a (by omega)];by_cases h1:i=a
  .subst h1;rw[if_neg (by omega),gQ];by_cases h2:k<l.length/\i≠k;.rw[if_pos ⟨rfl,h2⟩,if_pos ⟨by omega,h2⟩]
   rw[if_neg (λh=>h2 h.2),if_neg (λh=>h2 h.2)]
  by_cases h2:i<a/\k<l.length/\i≠k;.rw[if_pos h2,if_neg (λh=>h1 h.1),if_pos ⟨by omega,h2.2⟩,cV]
  rw[if_neg h2,if_neg (λh=>h1 h.1),if_neg (λh=>h2 ⟨by omega,h.2⟩),cV]
theorem VQ{x:ax}(hl:∀p∈l,gX p)(h4:l.length<=4)(hx:(0<=x.1/\x.1<(l.length:Int))/\0<=x.2.1/\x.2.1<=3)(hk:k<l.length)(hne:x.1≠(k:Int)){u:Int}(hu:0<=u/\u<=3):oM l (tW x.1.toNat x.2.1.toNat k u.toNat)=pick (ct (l.getD x.1.toNat dP) (l.getD k dP)) x.2.1 u:=by unfold oM;rw[rZ (by unfold tW;omega),Qb hl h4 (by omega) (by omega) (by omega) l.length (aj _),if_pos ⟨by omega,hk,by omega⟩];congr 1<;>omega
end
end Go.Tv
namespace Go.Tv
open Go Go.Di Go.Proofs
section
variable {l:List PD} {F:Nat->List Int} {st yA b:List ax} {i k n r:Nat}
theorem zT{α β:Type}[DecidableEq α]{g:α->List β}{o:α}:∀{q:List α},q.Nodup->(q.flatMap λx=>if x=o then g x else[])=if o∈q then g o else[]
 |[],_=>by simp
 |a::q,h=>by
  rw[List.nodup_cons]at h;rw[cM,zT h.2];by_cases e:a=o;.subst e;rw[if_pos rfl,if_neg h.1,if_pos (by simp),cV]
  rw[if_neg e,gQ];have:(o∈a::q)↔o∈q:=by simp[show¬o=a fromλh=>e h.symm]
  simp only[this]
theorem BB{q:List Int}(h:q.Pairwise (·<·)):q.Nodup:=h.imp λh=>by omega
abbrev shA(p q:PD)(x y:Int):List Int:=Aq (iW x p.1 p.2.1) (iV y q.1 q.2.1) (p.2.2.1+q.2.2.1) (q.1.length+p.1.length+1)
theorem PN{p q:PD}(hp:gX p)(hq:gX q){o u:Int}:pick (ct p q) o u=if o∈p.2.2.2.1/\u∈q.2.2.2.1 then shA p q o u else[]:=by
 have e:pick (ct p q) o u=p.2.2.2.1.flatMap λx=>if x=o then(q.2.2.2.1.flatMap λy=>if y=u then shA p q x y else[])else[]:=by
  unfold pick ct aC;rw[List.filter_flatMap,zk];congr 1;funext x;rw[List.filter_flatMap,zk];by_cases h:x=o
  .rw[if_pos h];congr 1;funext y;rw[List.filter_map,kW];by_cases h2:y=u;.rw[if_pos h2,List.filter_eq_self.2 (by simp[h,h2])];exact List.map_id _
   rw[if_neg h2,List.filter_eq_nil_iff.2 (by simp[h2])];rfl
  rw[if_neg h,List.flatMap_eq_nil_iff];intro y _;rw[List.filter_map,List.filter_eq_nil_iff.2 (by simp[h])];rfl
 rw[e,zT (BB hp.Yv),zT (BB hq.Yv)];by_cases h1:o∈p.2.2.2.1<;>by_cases h2:u∈q.2.2.2.1<;>simp[h1,h2]
theorem aaY{p q:PD}(hp:gX p){o:Int}:((ct p q).filter λs=>s.1==o)=if o∈p.2.2.2.1 then(q.2.2.2.1.flatMap λy=>(shA p q o y).map λs=>(o,y,s,()))else[]:=by
 have e:((ct p q).filter λs=>s.1==o)=p.2.2.2.1.flatMap λx=>if x=o then(q.2.2.2.1.flatMap λy=>(shA p q x y).map λs=>(x,y,s,()))else[]:=by
  unfold ct aC;rw[List.filter_flatMap];congr 1;funext x;rw[List.filter_flatMap];by_cases h:x=o;.rw[if_pos h];congr 1;funext y;exact List.filter_eq_self.2 (by simp[h])
  rw[if_neg h,List.flatMap_eq_nil_iff];intro y _;exact List.filter_eq_nil_iff.2 (by simp[h])
 rw[e,zT (BB hp.Yv)]
def rV(ns:List (ax×List Int)):List ax:=ns.flatMap λp=>p.2.map λs=>(p.1.1,p.1.2.1,s,())
theorem yo{α β:Type}{f g:α->List β}:∀{q:List α},(∀x∈q,f x=g x)->q.flatMap f=q.flatMap g
 |[],_=>rfl
 |a::q,h=>by rw[cM,cM,h a (by simp),yo λx hx=>h x (by simp[hx])]
theorem aaw(hl:∀p∈l,gX p)(h4:l.length<=4)(hS:nD l st)(hi:i<l.length)(hh:gE st (i:Int)=false):cF l st i=(qL l i).flatMap λn=>(lqp (oM l) st i n).map λs=>((i:Int),n,s,()):=by
 have oi:gX (l.getD i dP):=bX hi hl;unfold cF lqp;by_cases h0:st.length=0
 .simp only[if_pos h0];rw[List.flatMap_def];simp[kW,List.flatten];induction qL l i with
  |nil=>rfl
  |cons a q ih=>simp[ih]
 simp only[if_neg h0];have hm:dh st∈st:=bX (P:=λx=>x∈st) (by omega) λ_ h=>h;have hx:=hS _ hm;have ol:gX (l.getD (dh st).1.toNat dP):=bX (by omega) hl;have hne:(dh st).1≠(i:Int):=λe=>zQ hh (e▸List.mem_map_of_mem hm);rw[aaY ol];have ef:∀n∈qL l i,(oM l (tW (dh st).1.toNat (dh st).2.1.toNat i n.toNat))=if(dh st).2.1∈(l.getD (dh st).1.toNat dP).2.2.2.1 then shA (l.getD (dh st).1.toNat dP) (l.getD i dP) (dh st).2.1 n else[]:=λn hn=>by
  rw[VQ hl h4 hx hi hne (oi.yw n hn),PN ol oi];by_cases h1:(dh st).2.1∈(l.getD (dh st).1.toNat dP).2.2.2.1;.rw[if_pos h1,if_pos ⟨h1,hn⟩]
  rw[if_neg h1,if_neg λh=>h1 h.1]
 by_cases h1:(dh st).2.1∈(l.getD (dh st).1.toNat dP).2.2.2.1;.rw[if_pos h1,zk];refine yo λn hn=>?_;rw[ef n hn,if_pos h1,kW];rfl
 rw[if_neg h1,fe];refine(List.flatMap_eq_nil_iff.2 λn hn=>?_).symm;rw[ef n hn,if_neg h1];rfl
theorem XW{a c:List (ax×List Int)}:rV (a++c)=rV a++rV c:=by unfold rV;rw[List.flatMap_append]
theorem aeR:rV (((qL l i)).filterMap (J5 F st i))=(qL l i).flatMap λn=>(lqp F st i n).map λs=>((i:Int),n,s,()):=by
 induction qL l i with
 |nil=>rfl
 |cons a q ih=>
  rw[List.filterMap_cons,cM];unfold J5 at ih⊢;by_cases e:(lqp F st i a).length=0;.rw[if_pos e];rw[List.length_eq_zero_iff.1 e];exact ih
  rw[if_neg e];show(lqp F st i a).map _++rV _=_;rw[ih]
theorem all_eq(hl:∀p∈l,gX p)(h4:l.length<=4)(hS:nD l st):∀i,i<=l.length->allI l st i=rV (kL l (oM l) st i)
 |0,_=>rfl
 |i+1,hi=>by
  rw[sJ,qh,XW,all_eq hl h4 hS i (by omega)];congr 1;split;.rfl
  rename_i hh;rw[aaw hl h4 hS (by omega) (by simpa using hh)];unfold qu;rw[fW,aeR]
def Key(st yA:List ax):Prop:=st.map (λx=>(x.1,x.2.1))=yA.map λx=>(x.1,x.2.1)
theorem Key.len (h:Key st yA):st.length=yA.length:=by simpa using congrArg List.length h
theorem Key.at (h:Key st yA)(j:Nat):((st.getD j gB).1,(st.getD j gB).2.1)=((yA.getD j gB).1,(yA.getD j gB).2.1):=by
 have h1:(st.map (λx=>(x.1,x.2.1)))[j]? =(yA.map λx=>(x.1,x.2.1))[j]? :=by rw[h]
 rw[cR,cR]at h1;rw[aR,aR]
 revert h1
 cases st[j]?<;>cases yA[j]?<;>simp
theorem Key.has (h:Key st yA)(x:Int):gE st x=gE yA x:=by
 have e:∀s:List ax,gE s x=(s.map λx=>(x.1,x.2.1)).any λe=>e.1==x:=λs=>by unfold gE;rw[List.any_map];rfl
 rw[e,e,h]
theorem Key.sh (h:Key st yA)(i:Nat)(n:Int):lqp F st i n=lqp F yA i n:=by unfold lqp;rw[h.len];have h1:=h.at (yA.length-1);rw[ay]at h1;rw[h1.1,h1.2]
theorem Key.nx (h:Key st yA)(a:Nat):kL l F st a=kL l F yA a:=by unfold kL qu J5;refine yo λi _=>?_;rw[h.has];congr 1;congr 1;funext n;rw[h.sh]
theorem Key.add (h:Key st yA){x y:ax}(h1:x.1=y.1)(h2:x.2.1=y.2.1):Key (st++[x]) (yA++[y]):=by unfold Key at h⊢;rw[dW,dW,h];simp[h1,h2]
theorem LH:∀(r:Nat){st yA:List ax},Key st yA->di l F r st=di l F r yA
 |0,_,_,_=>rfl
 |r+1,st,yA,h=>by rw[di,di,h.nx];unfold jA;congr 1;refine List.map_congr_left λp _=>?_;rw[LH r (h.add rfl rfl)]
def Ge(l:List PD)(F:Nat->List Int)(m:Nat):Nat->List ax->Prop
 |0,st=>st.length<=m
 |r+1,st=>st.length<=m/\∀p∈kL l F st l.length,Ge l F m r (st++[p.1])
theorem Ge.key {m:Nat}:∀{r:Nat}{st yA:List ax},Key st yA->Ge l F m r st->Ge l F m r yA
 |0,st,yA,k,h=>by unfold Ge at h⊢;rw[<-k.len];exact h
 |r+1,st,yA,k,h=>by unfold Ge at h⊢;rw[<-k.len,<-k.nx];exact⟨h.1,λp hp=>Ge.key (k.add rfl rfl) (h.2 p hp)⟩
theorem Ge.up {m m':Nat}(hm:m<=m'):∀{r:Nat}{st:List ax},Ge l F m r st->Ge l F m' r st
 |0,st,h=>by unfold Ge at h⊢;omega
 |r+1,st,h=>by unfold Ge at h⊢;exact⟨by omega,λp hp=>(h.2 p hp).up hm⟩
theorem Jq:b.length<=(kF st b).length/\st.length<=(kF st b).length:=by unfold kF;split<;>omega
theorem Dd:∀(r:Nat){st b:List ax},b.length<=(nX l F r st b).length/\Ge l F (nX l F r st b).length r st/\(Ge l F b.length r st->nX l F r st b=b)
 |0,st,b=>by refine⟨Jq.1,Jq.2,λh=>?_⟩;unfold Ge at h;show kF st b=b;unfold kF;rw[if_neg (by omega)]
 |r+1,st,b=>by
  have key:∀(ns:List (ax×List Int))(c:List ax),c.length<=(ns.foldl (λb p=>nX l F r (st++[p.1]) b) c).length/\(∀p∈ns,Ge l F (ns.foldl (λb p=>nX l F r (st++[p.1]) b) c).length r (st++[p.1]))/\((∀p∈ns,Ge l F c.length r (st++[p.1]))->ns.foldl (λb p=>nX l F r (st++[p.1]) b) c=c):=by
   intro ns;induction ns with
   |nil=>exactλc=>⟨aj _,by simp,λ_=>rfl⟩
   |cons p ns ih=>
    intro c;obtain⟨h1,h2,h3⟩:=Dd r (st:=st++[p.1]) (b:=c);obtain⟨i1,i2,i3⟩:=ih (nX l F r (st++[p.1]) c);rw[gu];refine⟨bp h1 i1,λq hq=>?_,λh=>?_⟩
    .rcases bz.1 hq with rfl|hq;.exact h2.up i1
     exact i2 q hq
    have e:=h3 (h p (by simp));rw[e]at i3⊢;exact i3 λq hq=>h q (by simp[hq])
  obtain⟨k1,k2,k3⟩:=key (kL l F st l.length) (kF st b);rw[nX];have h0:=Jq (st:=st) (b:=b);refine⟨by omega,?_,λh=>?_⟩;.unfold Ge;exact⟨by omega,k2⟩
  unfold Ge at h;have e:kF st b=b:=by unfold kF;rw[if_neg (by omega)]
  rw[e]at k3⊢;exact k3 h.2
theorem Vr(hl:∀p∈l,gX p)(hS:nD l st){a:Nat}(ha:a<=l.length){p:ax×List Int}(hp:p∈kL l F st a){s:Int}:nD l (st++[(p.1.1,p.1.2.1,s,())]):=λz hz=>by
 rcases dX.1 hz with hz|hz;.exact hS z hz
 rw[bC]at hz;subst hz;obtain⟨k,hk,-,n,hn,rfl⟩:=yZ hp;have ok:gX (l.getD k dP):=bX (by omega) hl;exact⟨⟨by dsimp only;omega,by dsimp only;omega⟩,ok.yw n hn⟩
theorem GH{α:Type}{g:α->Int}{v:Int}:∀{q:List α},(∀x∈q,g x=v)->(q.map g).sum=(q.length:Int)*v
 |[],_=>by simp
 |a::q,h=>by
  rw[aV,List.sum_cons,h a (by simp),GH λx hx=>h x (by simp[hx]),dw]
  push_cast
  rw[Int.add_mul];omega
theorem VX(hl:∀p∈l,gX p)(h4:l.length<=4):∀(r:Nat){st:List ax},nD l st->oN l r st=di l (oM l) r st
 |0,_,_=>rfl
 |r+1,st,hS=>by
  rw[oN,di,all_eq hl h4 hS l.length (aj _)];unfold jA;have key:∀ns:List (ax×List Int),(∀p∈ns,p∈kL l (oM l) st l.length)->((rV ns).map λx=>oN l r (st++[x])).sum=(ns.map λp=>(p.2.length:Int)*di l (oM l) r (st++[p.1])).sum:=by
   intro ns;induction ns with
   |nil=>exactλ_=>rfl
   |cons p ns ih=>intro h;have e:rV (p::ns)=(p.2.map λs=>(p.1.1,p.1.2.1,s,()))++rV ns:=rfl;rw[e,dW,List.sum_append,ih λq hq=>h q (by simp[hq]),aV,List.sum_cons];congr 1;rw[kW,GH λs _=>?_];show oN l r (st++[(p.1.1,p.1.2.1,s,())])=_;rw[VX hl h4 r (Vr hl hS (aj _) (h p (by simp)))];exact LH r (Key.add rfl rfl rfl)
  exact key _ λ_ h=>h
theorem Nu(hl:∀p∈l,gX p)(h4:l.length<=4):∀(r:Nat){st b:List ax},nD l st->rN l r st b=nX l (oM l) r st b
 |0,_,_,_=>rfl
 |r+1,st,b,hS=>by
  rw[rN,nX,all_eq hl h4 hS l.length (aj _)];have key:∀(ns:List (ax×List Int))(c:List ax),(∀p∈ns,p∈kL l (oM l) st l.length)->(rV ns).foldl (λb x=>rN l r (st++[x]) b) c=ns.foldl (λb p=>nX l (oM l) r (st++[p.1]) b) c:=by
   intro ns;induction ns with
   |nil=>exactλ_ _=>rfl
   |cons p ns ih=>
    intro c h;have e:rV (p::ns)=(p.2.map λs=>(p.1.1,p.1.2.1,s,()))++rV ns:=rfl;rw[e,mE,gu,ih _ λq hq=>h q (by simp[hq])];congr 1;have hp:=h p (by simp);obtain⟨k,hk,-,n,hn,OH⟩:=yZ hp;have hne:p.2.length≠0:=by
     intro h0;unfold kL qu J5 at hp;rw[nN]at hp;obtain⟨a,-,ha⟩:=hp;split at ha;.cases ha
     rw[zu]at ha;obtain⟨m,-,hm⟩:=ha;split at hm;.cases hm
     rename_i hz;cases hm;exact hz h0
    have h1:p.1=((k:Int),n,p.2.getD 0 0,()):=by rw[OH]
    obtain⟨s,ss,hs⟩:∃s ss,p.2=s::ss:=by
     cases hp2:p.2 with
     |nil=>rw[hp2]at hne;exact(hne rfl).elim
     |cons s ss=>exact⟨s,ss,rfl⟩
    have HU:p.1=((k:Int),n,s,()):=by rw[h1,hs];rfl
    rw[hs,aV,gu];have mO:∀t:Int,nD l (st++[(p.1.1,p.1.2.1,t,())]):=λt=>Vr hl hS (aj _) hp;have e1:((p.1.1,p.1.2.1,s,()):ax)=p.1:=by rw[HU]
    rw[e1,Nu hl h4 r (by have:=mO s;rwa [e1]at this)];have rest:∀(ss:List Int)(c:List ax),Ge l (oM l) c.length r (st++[p.1])->(ss.map λt=>((p.1.1,p.1.2.1,t,()):ax)).foldl (λb x=>rN l r (st++[x]) b) c=c:=by
     intro ss;induction ss with
     |nil=>exactλ_ _=>rfl
     |cons t ss ih=>
      intro c hc;rw[aV,gu];have:rN l r (st++[(p.1.1,p.1.2.1,t,())]) c=c:=by rw[Nu hl h4 r (mO t)];have kk:Key (st++[p.1]) (st++[(p.1.1,p.1.2.1,t,())]):=Key.add (show Key st st from rfl) rfl rfl;exact(Dd r).2.2 (hc.key kk)
      rw[this];exact ih c hc
    exact rest ss _ (Dd r).2.1
  exact key _ _ λ_ h=>h
end
end Go.Tv
