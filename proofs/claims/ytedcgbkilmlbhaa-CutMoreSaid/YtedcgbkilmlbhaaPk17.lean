import Derived.Test.YtedcgbkilmlbhaaPk16
set_option maxRecDepth 100000
namespace Go.Tv
open Go Go.Di Go.Proofs
def ai5:List TV->Dn
 |[.sl (.pair (.int .i64) (.pair (.int .i64) (.pair (.int .i64) .unit))) l .no,.sl (.pair (.int .i64) (.pair (.int .i64) (.pair (.int .i64) .unit))) m .no]=>some ([l.length<=1000,m.length<=1000],.ex Bool λb=>.res (iD b) [] [b=true↔l=m],
  [(4,.ex Nat λi=>.ex Bool λb=>.st {sl:=[(5,iD b),(6,bp i)],cO:=[i<=l.length,b=true↔(l.length=m.length/\l.take i=m.take i)],m:=l.length-i})])
 |_=>none
def aiG.q1 (p0 p1:List aG)(p2 p3:Bool)(p4:Int)(p5 p6:Nat):Prop:=p2=p3/\p4=(↑p5:Int)/\p5<=p0.length/\(p3=true↔p0.length=p1.length/\List.take p5 p0=List.take p5 p1)/\(p0.length-p5)<p6
def aip:List TV->Dn
 |[.sl (.pair (.sl (.int .i64)) (.pair (.sl (.int .i64)) (.pair (.int .i64) (.pair (.sl (.int .i64)) .unit)))) l .no,.val (.int .i64 a),.val (.int .i64 b)]=>some ([l.length<=4,∀p∈l,kP p,0<=a,a<l.length,0<=b,b<l.length,a≠b],.ex (List aG) λs=>.res (.tup [.sl cz s .no,bp 0]) [] [s=bS (l.getD a.toNat dP) (l.getD b.toNat dP)],[])
 |_=>none
def Cm.q1 (p0:bq.den)(p1:Prop):Prop:=List.reverse p0=List.reverse p0/\p1
def Cm.q2 (p0:bq.den):Prop:=p0=p0
def Cm.q3 (p0:List PD)(p1:Int)(p2:Prop):Prop:=Cm.q2 (p0.getD p1.toNat ([],[],0,[],())).1/\Cm.q2 (p0.getD p1.toNat ([],[],0,[],())).2.1/\Cm.q1 (p0.getD p1.toNat ([],[],0,[],())).2.1 (Cm.q1 (p0.getD p1.toNat ([],[],0,[],())).1 (Cm.q1 (p0.getD p1.toNat ([],[],0,[],())).1 (Cm.q1 (p0.getD p1.toNat ([],[],0,[],())).2.1 (Cm.q2 (p0.getD p1.toNat ([],[],0,[],())).2.1/\Cm.q2 (p0.getD p1.toNat ([],[],0,[],())).1/\p2))))
def Cm.q4 (p0:List PD)(p1:Int):Prop:=Ok (p0.getD p1.toNat ([],[],0,[],())).1 (p0.getD p1.toNat ([],[],0,[],())).2.1 (p0.getD p1.toNat ([],[],0,[],())).2.2.1 (p0.getD p1.toNat ([],[],0,[],())).2.2.2.1
def Cm.q5 (p0:List PD)(p1:Int)(p2:Prop):Prop:=(0<=p1/\p1<(↑p0.length:Int))/\List.length (p0.getD p1.toNat ([],[],0,[],())).fst<=1000/\List.length (p0.getD p1.toNat ([],[],0,[],())).snd.fst<=1000/\p2
abbrev tK(st:List aG):aG:=st.getD (st.length-1) nV
def Gb(l:List PD)(st:List aG)(i:Nat):List aG:=if st.length=0 then(qL l i).map λn=>((i:Int),n,0,())else((bS (l.getD (tK st).1.toNat dP) (l.getD i dP)).filter λs=>s.1==(tK st).2.1).map λs=>((i:Int),s.2.1,s.2.2.1,())
def allI(l:List PD)(st:List aG)(i:Nat):List aG:=(List.range i).flatMap λ(i:Nat)=>if kG st (i:Int)then[]else Gb l st i
def ado(l:List PD):Nat->List aG->Int
 |0,_=>1
 |r+1,st=>((allI l st l.length).map λx=>ado l r (st++[x])).sum
def acN(l:List PD):Nat->List aG->List aG->List aG
 |0,st,b=>nR st b
 |r+1,st,b=>(allI l st l.length).foldl (λb x=>acN l r (st++[x]) b) (nR st b)
def acA(l:List PD)(st:List aG)(ns:List aG):Int:=(ns.map λx=>ado l (l.length-st.length-1) (st++[x])).sum
def BD(l:List PD)(st:List aG)(ns:List aG)(c:List aG):List aG:=ns.foldl (λb x=>acN l (l.length-st.length-1) (st++[x]) b) c
section
variable {l:List PD} {st b:List aG} {i y:Nat}
end
def Bq(te:List TV)(tS:List TB)(k:List PD->List aG->List aG->LA):LA:=
 match te,tS with
 |.sl (.pair (.sl (.int .i64)) (.pair (.sl (.int .i64)) (.pair (.int .i64) (.pair (.sl (.int .i64)) .unit)))) l _::.sl (.pair (.int .i64) (.pair (.int .i64) (.pair (.int .i64) .unit))) st _::_,.cells [.sl (.pair (.int .i64) (.pair (.int .i64) (.pair (.int .i64) .unit))) b _]::_=>k l st b
 |_,_=>.un 0
def aio(n:Nat):List TV->List (List TV)->Dn
 |[.sl (.pair (.sl (.int .i64)) (.pair (.sl (.int .i64)) (.pair (.int .i64) (.pair (.sl (.int .i64)) .unit)))) l .no,.sl (.pair (.int .i64) (.pair (.int .i64) (.pair (.int .i64) .unit))) st .no,.ptr 0 0],[[.sl (.pair (.int .i64) (.pair (.int .i64) (.pair (.int .i64) .unit))) b .no]]=>
  some ([l.length<=3,∀p∈l,kP p,tD l st,(st.map (·.1)).Nodup,l.length<st.length+n,b.length<=1000],.res (.tup [bp (ado l (l.length-st.length) st),iD true]) [.agg [.sl cz (acN l (l.length-st.length) st b) .no]] [],
  [(1,.dep λte tS=>Bq te tS λ_ st b=>.ex (List aG) λc=>.st {sl:=[],pl:=[(0,[.sl cz c .no])],cO:=[c=nR st b]}),
   (9,.dep λte tS=>Bq te tS λl st c=>.ex Nat λi=>.ex Int λn=>.st {sl:=[(8,bp n),(9,bp i)],pl:=[(0,[.sl cz (BD l st (allI l st i) c) .no])],cO:=[i<=l.length,n=acA l st (allI l st i)],m:=l.length-i}),
   (16,.dep λte tS=>Bq te tS λl st c=>fZ te 9 λi=>.ex Nat λk=>.ex Bool λo=>.st {sl:=[(10,iD o),(11,bp k)],cO:=[k<=st.length,o=!kG (st.take k) (i:Int)],m:=st.length-k}),
   (23,.dep λte tS=>Bq te tS λl st c=>fZ te 9 λi=>.ex (List aG) λN=>.st {sl:=[(12,.sl cz N .no)],cO:=[N=Gb l st i]}),
   (26,.dep λte tS=>Bq te tS λl st c=>fZ te 9 λi=>.ex Nat λy=>.st {sl:=[(12,.sl cz (((qL l i).take y).map λn=>((i:Int),n,0,())) (.je tS.length)),(13,bp y)],own:=[(81,3)],cO:=[y<=(qL l i).length],m:=(qL l i).length-y}),
   (31,.dep λte tS=>Bq te tS λl st c=>fZ te 9 λi=>.ex (List aG) λs=>.st {sl:=[(15,.sl cz s .no),(16,bp 0)],cO:=[s=bS (l.getD (tK st).1.toNat dP) (l.getD i dP)]}),
   (36,.dep λte tS=>Bq te tS λl st c=>fZ te 9 λi=>.ex Nat λy=>.st {sl:=[(12,.sl cz ((((bS (l.getD (tK st).1.toNat dP) (l.getD i dP)).take y).filter λs=>s.1==(tK st).2.1).map λs=>((i:Int),s.2.1,s.2.2.1,())) (.je tS.length)),(17,bp y)],own:=[(81,3)],cO:=[y<=(bS (l.getD (tK st).1.toNat dP) (l.getD i dP)).length],m:=(bS (l.getD (tK st).1.toNat dP) (l.getD i dP)).length-y}),
   (42,.dep λte tS=>Bq te tS λl st c=>fZ te 9 λi=>.ex Nat λy=>.st {sl:=[(8,bp (acA l st (allI l st i++(Gb l st i).take y))),(18,bp y)],pl:=[(0,[.sl cz (BD l st ((Gb l st i).take y) c) .no])],cO:=[y<=(Gb l st i).length],m:=(Gb l st i).length-y})])
 |_,_=>none
noncomputable def G21 (n:Nat):eZ:=(T0.dQ 11 λa=>dS (aip a)).H7 21 λa t=>dS (aio n a t)
def uh.q1 (p0:cS.den):Prop:=p0=p0
def uh.q2 (p0:List aG)(p1:Prop):Prop:=uh.q1 (p0.getD ((↑p0.length:Int)-1).toNat (0,0,0,())).1/\uh.q1 (p0.getD ((↑p0.length:Int)-1).toNat (0,0,0,())).2.1/\uh.q1 (p0.getD ((↑p0.length:Int)-1).toNat (0,0,0,())).2.2.1/\p1
def uh.q3 (p0:Nat)(p1:List PD)(p2:List aG)(p3:Int)(p4:Nat)(p5:Bool)(p6:Nat)(p7 p8:List aG)(p9:List cz.den):Prop:=dw ((↑p0:Int)+1)/\∃(a:Nat),p1=p1/\p2=p2/\p3=p3/\(↑p4:Int)=(↑p4:Int)/\p5=p5/\(↑p6:Int)=(↑p6:Int)/\p9=List.map (λ(s:aG)=>((↑(↑p4:Int).toNat:Int),s.2.1,s.2.2.1,())) (List.filter (λ(s:aG)=>s.1==(tK p2).2.1) (List.take a (bS (p1.getD (tK p2).1.toNat dP) (p1.getD p4 dP))))/\p7=p7/\(0:Int)=0/\(↑p0:Int)+1=(↑a:Int)/\(↑p4:Int)=(↑p4:Int)/\p1=p1/\(↑p1.length:Int)=(↑p1.length:Int)/\true=true/\(↑p6:Int)=(↑p6:Int)/\p2=p2/\(↑p2.length:Int)=(↑p2.length:Int)/\false=false/\p5=p5/\false=false/\p2=p2/\(↑p2.length:Int)=(↑p2.length:Int)/\false=false/\p2=p2/\p2=p2/\(↑p2.length:Int)=(↑p2.length:Int)/\(↑p2.length:Int)-1=(↑p2.length:Int)-1/\p2=p2/\((↑p2.length:Int)-1).toNat=((↑p2.length:Int)-1).toNat/\0=0/\uh.q2 p2 ((0:Int)=0/\false=false/\false=false/\p7=p7/\(↑p7.length:Int)=(↑p7.length:Int)/\decide ((↑p7.length:Int)>300)=decide ((↑p7.length:Int)>300)/\false=false/\BD p1 p2 (allI p1 p2 p4) p8=BD p1 p2 (allI p1 p2 p4) p8/\uh.q2 p2 (a<=(bS (p1.getD (tK p2).1.toNat dP) (p1.getD p4 dP)).length/\((bS (p1.getD (tK p2).1.toNat dP) (p1.getD p4 dP)).length-a)<((bS (p1.getD (tK p2).1.toNat dP) (p1.getD p4 dP)).length-p0)))
def uh.q4 (p0:Nat)(p1:List PD)(p2:Nat)(p3:List aG)(p4:Bool)(p5:Prop):Prop:=(↑p0:Int)=(↑p0:Int)/\p1=p1/\(↑p1.length:Int)=(↑p1.length:Int)/\true=true/\(↑p2:Int)=(↑p2:Int)/\p3=p3/\(↑p3.length:Int)=(↑p3.length:Int)/\false=false/\p4=p4/\false=false/\p5
def uh.q5 (p0:Nat)(p1:List PD)(p2:List aG)(p3:Int)(p4:Nat)(p5:List aG)(p6 p7:Bool):Prop:=dw ((↑p0:Int)+1)/\∃(a:Nat),∃(x:Bool),p1=p1/\p2=p2/\p3=p3/\(↑p4:Int)=(↑p4:Int)/\p7=x/\(↑p0:Int)+1=(↑a:Int)/\(↑p4:Int)=(↑p4:Int)/\p1=p1/\(↑p1.length:Int)=(↑p1.length:Int)/\true=true/\BD p1 p2 (allI p1 p2 p4) p5=BD p1 p2 (allI p1 p2 p4) p5/\a<=p2.length/\x=!kG (List.take a p2) (↑p4:Int)/\(p2.length-a)<(p2.length-p0)
def uh.q6 (p0:Nat)(p1:List PD)(p2 p3:List aG)(p4 p5:Int)(p6 p7:List aG):Prop:=dw ((↑p0:Int)+1)/\∃(a:Nat),∃(x:Int),p1=p1/\p2=p2/\p5=x/\(↑p0:Int)+1=(↑a:Int)/\BD p1 p2 p6 p7=BD p1 p2 (allI p1 p2 a) p3/\a<=p1.length/\x=acA p1 p2 (allI p1 p2 a)/\(p1.length-a)<(p1.length-p0)
def uh.q7 (p0:cS.den):Prop:=p0=p0
def uh.q8 (p0:List aG)(p1:Prop):Prop:=uh.q7 (p0.getD ((↑p0.length:Int)-1).toNat (0,0,0,())).1/\uh.q7 (p0.getD ((↑p0.length:Int)-1).toNat (0,0,0,())).2.1/\uh.q7 (p0.getD ((↑p0.length:Int)-1).toNat (0,0,0,())).2.2.1/\p1
def uh.q9 (p0:Nat->List cz.den)(p1 p2 p3:Nat):Prop:=∃(a:Nat),[]=p0 a/\0=(↑a:Int)/\a<=p1/\(p1-a)<1000000
def uh.q10 (p0 p1:Nat)(p2:Prop):Prop:=(0<=(↑p0:Int)/\(↑p0:Int)<(↑p1:Int))/\p2
end Go.Tv
namespace Go.Tv
open Go Go.Di Go.Proofs
section
variable {l:List PD} {F:Nat->List Int} {st CD b:List aG} {i k n r:Nat}
def pick(ss:List aG)(o u:Int):List Int:=(ss.filter λs=>s.1==o&&s.2.1==u).map λs=>s.2.2.1
theorem aaK{i o k u i' o' k' u':Nat}(h:xd i o k u=xd i' o' k' u')(ho:o<4)(hk:k<4)(hu:u<4)(mK:o'<4)(pG:k'<4)(hu':u'<4):i=i'/\o=o'/\k=k'/\u=u':=by unfold xd at h;omega
theorem Sk{ss:List aG}{a c o k u:Nat}(hs:∀s∈ss,(0<=s.1/\s.1<=3)/\0<=s.2.1/\s.2.1<=3)(hc:c<4)(ho:o<4)(hk:k<4)(hu:u<4):∀{f:Nat->List Int},(ss.foldl (MP a c) f) (xd i o k u)=f (xd i o k u)++(if i=a/\k=c then pick ss (o:Int) (u:Int)else[]):=by
 induction ss with
 |nil=>intro f;simp[pick]
 |cons s ss ih=>
  intro f;have h1:=hs s (by simp);rw[gp,ih λs JJ=>hs s (by simp[JJ])];have e:MP a c f s (xd i o k u)=f (xd i o k u)++(if i=a/\k=c then(if s.1=(o:Int)/\s.2.1=(u:Int)then[s.2.2.1]else[])else[]):=by
   unfold MP Qv;split;.rename_i he;obtain⟨rfl,h2,rfl,h3⟩:=aaK he ho hk hu (by omega) hc (by omega);rw[if_pos ⟨rfl,rfl⟩,if_pos ⟨by omega,by omega⟩,he]
   rename_i he;split;.rename_i h2;obtain⟨rfl,rfl⟩:=h2;rw[if_neg,dZ];rintro⟨e1,e2⟩;exact he (by rw[e1,e2];rfl)
   rw[dZ]
  rw[e,jm];congr 1;split
  .unfold pick;rw[List.filter_cons];by_cases h2:s.1=(o:Int)/\s.2.1=(u:Int);.rw[if_pos h2,if_pos (by simp[h2.1,h2.2])];rfl
   rw[if_neg h2,if_neg (by simpa using h2),gZ]
  rfl
theorem aav{f:Nat->List Int}{a c o k u:Nat}(hl:∀p∈l,kP p)(ha:a<l.length)(hc:c<l.length)(hc4:c<4)(ho:o<4)(hk:k<4)(hu:u<4):Ol l f a c (bS (l.getD a dP) (l.getD c dP)).length (xd i o k u)=f (xd i o k u)++(if i=a/\k=c then pick (bS (l.getD a dP) (l.getD c dP)) (o:Int) (u:Int)else[]):=by unfold Ol;rw[iH];exact Sk (λs hs=>AP (fF ha hl) (fF hc hl) hs) hc4 ho hk hu
theorem PO{f:Nat->List Int}{a o k u:Nat}(hl:∀p∈l,kP p)(h4:l.length<=4)(ha:a<l.length)(ho:o<4)(hk:k<4)(hu:u<4):∀c,c<=l.length->C5 l f a c (xd i o k u)=f (xd i o k u)++(if i=a/\k<c/\a≠k then pick (bS (l.getD a dP) (l.getD k dP)) (o:Int) (u:Int)else[])
 |0,_=>by simp[C5]
 |c+1,hc=>by
  have ih:=PO (f:=f) hl h4 ha ho hk hu c (by omega);by_cases e:a=c
  .rw[I4 e,ih];congr 1;by_cases h1:i=a/\k<c/\a≠k;.rw[if_pos h1,if_pos ⟨h1.1,by omega,h1.2.2⟩]
   rw[if_neg h1,if_neg];rintro⟨h2,h3,h5⟩;exact h1 ⟨h2,by omega,h5⟩
  rw[Na e,aav hl ha (by omega) (by omega) ho hk hu,ih,jm];congr 1;by_cases h1:i=a
  .by_cases h2:k=c;.subst h2;rw[if_neg (by omega),if_pos ⟨h1,rfl⟩,if_pos ⟨h1,by omega,e⟩,gZ]
   by_cases h3:k<c/\a≠k;.rw[if_pos ⟨h1,h3⟩,if_neg (by omega),if_pos ⟨h1,by omega,h3.2⟩,dZ]
   rw[if_neg (λh=>h3 h.2),if_neg (by omega),if_neg (λh=>h3 ⟨by omega,h.2.2⟩),dZ]
  rw[if_neg (λh=>h1 h.1),if_neg (λh=>h1 h.1),if_neg (λh=>h1 h.1),dZ]
theorem PS{o k u:Nat}(hl:∀p∈l,kP p)(h4:l.length<=4)(ho:o<4)(hk:k<4)(hu:u<4):∀a,a<=l.length->Cg l a (xd i o k u)=if i<a/\k<l.length/\i≠k then pick (bS (l.getD i dP) (l.getD k dP)) (o:Int) (u:Int)else[]
 |0,_=>by simp[Cg]
 |a+1,ha=>by
  rw[Ee,PO hl h4 (by omega) ho hk hu l.length (ak _),PS hl h4 ho hk hu a (by omega)];by_cases h1:i=a
  .subst h1;rw[if_neg (by omega),gZ];by_cases h2:k<l.length/\i≠k;.rw[if_pos ⟨rfl,h2⟩,if_pos ⟨by omega,h2⟩]
   rw[if_neg (λh=>h2 h.2),if_neg (λh=>h2 h.2)]
  by_cases h2:i<a/\k<l.length/\i≠k;.rw[if_pos h2,if_neg (λh=>h1 h.1),if_pos ⟨by omega,h2.2⟩,dZ]
  rw[if_neg h2,if_neg (λh=>h1 h.1),if_neg (λh=>h2 ⟨by omega,h.2⟩),dZ]
theorem Vy{x:aG}(hl:∀p∈l,kP p)(h4:l.length<=4)(hx:(0<=x.1/\x.1<(l.length:Int))/\0<=x.2.1/\x.2.1<=3)(hk:k<l.length)(hne:x.1≠(k:Int)){u:Int}(hu:0<=u/\u<=3):Ao l (xd x.1.toNat x.2.1.toNat k u.toNat)=pick (bS (l.getD x.1.toNat dP) (l.getD k dP)) x.2.1 u:=by unfold Ao;rw[DU (by unfold xd;omega),PS hl h4 (by omega) (by omega) (by omega) l.length (ak _),if_pos ⟨by omega,hk,by omega⟩];congr 1<;>omega
end
end Go.Tv
namespace Go.Tv
open Go Go.Di Go.Proofs
section
variable {l:List PD} {F:Nat->List Int} {st CD b:List aG} {i k n r:Nat}
abbrev shA(p q:PD)(x y:Int):List Int:=Bj (jv x p.1 p.2.1) (js y q.1 q.2.1) (p.2.2.1+q.2.2.1) (q.1.length+p.1.length+1)
def aiz(ns:List (aG×List Int)):List aG:=ns.flatMap λp=>p.2.map λs=>(p.1.1,p.1.2.1,s,())
theorem EZ{α β:Type}{f g:α->List β}:∀{q:List α},(∀x∈q,f x=g x)->q.flatMap f=q.flatMap g
 |[],_=>rfl
 |a::q,h=>by rw[cT,cT,h a (by simp),EZ λx hx=>h x (by simp[hx])]
def Key(st CD:List aG):Prop:=st.map (λx=>(x.1,x.2.1))=CD.map λx=>(x.1,x.2.1)
theorem Key.len (h:Key st CD):st.length=CD.length:=by simpa using congrArg List.length h
theorem Key.at (h:Key st CD)(j:Nat):((st.getD j nV).1,(st.getD j nV).2.1)=((CD.getD j nV).1,(CD.getD j nV).2.1):=by
 have h1:(st.map (λx=>(x.1,x.2.1)))[j]? =(CD.map λx=>(x.1,x.2.1))[j]? :=by rw[h]
 rw[cM,cM]at h1;rw[aP,aP]
 revert h1
 cases st[j]?<;>cases CD[j]?<;>simp
theorem Key.has (h:Key st CD)(x:Int):kG st x=kG CD x:=by
 have e:∀s:List aG,kG s x=(s.map λx=>(x.1,x.2.1)).any λe=>e.1==x:=λs=>by unfold kG;rw[List.any_map];rfl
 rw[e,e,h]
theorem Key.sh (h:Key st CD)(i:Nat)(n:Int):mL F st i n=mL F CD i n:=by unfold mL;rw[h.len];have h1:=h.at (CD.length-1);rw[az]at h1;rw[h1.1,h1.2]
theorem Key.nx (h:Key st CD)(a:Nat):tw l F st a=tw l F CD a:=by unfold tw CF TA;refine EZ λi _=>?_;rw[h.has];congr 1;congr 1;funext n;rw[h.sh]
theorem Key.add (h:Key st CD){x y:aG}(h1:x.1=y.1)(h2:x.2.1=y.2.1):Key (st++[x]) (CD++[y]):=by unfold Key at h⊢;rw[dY,dY,h];simp[h1,h2]
def Ge(l:List PD)(F:Nat->List Int)(m:Nat):Nat->List aG->Prop
 |0,st=>st.length<=m
 |r+1,st=>st.length<=m/\∀p∈tw l F st l.length,Ge l F m r (st++[p.1])
theorem Ge.key {m:Nat}:∀{r:Nat}{st CD:List aG},Key st CD->Ge l F m r st->Ge l F m r CD
 |0,st,CD,k,h=>by unfold Ge at h⊢;rw[<-k.len];exact h
 |r+1,st,CD,k,h=>by unfold Ge at h⊢;rw[<-k.len,<-k.nx];exact⟨h.1,λp hp=>Ge.key (k.add rfl rfl) (h.2 p hp)⟩
theorem Ge.up {m m':Nat}(hm:m<=m'):∀{r:Nat}{st:List aG},Ge l F m r st->Ge l F m' r st
 |0,st,h=>by unfold Ge at h⊢;omega
 |r+1,st,h=>by unfold Ge at h⊢;exact⟨by omega,λp hp=>(h.2 p hp).up hm⟩
theorem Jd:b.length<=(nR st b).length/\st.length<=(nR st b).length:=by unfold nR;split<;>omega
theorem Qn:∀(r:Nat){st b:List aG},b.length<=(qq l F r st b).length/\Ge l F (qq l F r st b).length r st/\(Ge l F b.length r st->qq l F r st b=b)
 |0,st,b=>by refine⟨Jd.1,Jd.2,λh=>?_⟩;unfold Ge at h;show nR st b=b;unfold nR;rw[if_neg (by omega)]
 |r+1,st,b=>by
  have key:∀(ns:List (aG×List Int))(c:List aG),c.length<=(ns.foldl (λb p=>qq l F r (st++[p.1]) b) c).length/\(∀p∈ns,Ge l F (ns.foldl (λb p=>qq l F r (st++[p.1]) b) c).length r (st++[p.1]))/\((∀p∈ns,Ge l F c.length r (st++[p.1]))->ns.foldl (λb p=>qq l F r (st++[p.1]) b) c=c):=by
   intro ns;induction ns with
   |nil=>exactλc=>⟨ak _,by simp,λ_=>rfl⟩
   |cons p ns ih=>
    intro c;obtain⟨h1,h2,h3⟩:=Qn r (st:=st++[p.1]) (b:=c);obtain⟨i1,i2,i3⟩:=ih (qq l F r (st++[p.1]) c);rw[gp];refine⟨bD h1 i1,λq hq=>?_,λh=>?_⟩
    .rcases bw.1 hq with rfl|hq;.exact h2.up i1
     exact i2 q hq
    have e:=h3 (h p (by simp));rw[e]at i3⊢;exact i3 λq hq=>h q (by simp[hq])
  obtain⟨k1,k2,k3⟩:=key (tw l F st l.length) (nR st b);rw[qq];have h0:=Jd (st:=st) (b:=b);refine⟨by omega,?_,λh=>?_⟩;.unfold Ge;exact⟨by omega,k2⟩
  unfold Ge at h;have e:nR st b=b:=by unfold nR;rw[if_neg (by omega)]
  rw[e]at k3⊢;exact k3 h.2
theorem aes(hl:∀p∈l,kP p)(hS:tD l st){a:Nat}(ha:a<=l.length){p:aG×List Int}(hp:p∈tw l F st a){s:Int}:tD l (st++[(p.1.1,p.1.2.1,s,())]):=λz hz=>by
 rcases eY.1 hz with hz|hz;.exact hS z hz
 rw[bI]at hz;subst hz;obtain⟨k,hk,-,n,hn,rfl⟩:=aan hp;have ok:kP (l.getD k dP):=fF (by omega) hl;exact⟨⟨by dsimp only;omega,by dsimp only;omega⟩,ok.Mc n hn⟩
end
end Go.Tv
namespace Go.Tv
open Go Go.Di Go.Proofs
theorem xF{l:List PD}{q:PD}{a:Nat}(h:a<l.length):(l++[q]).getD a dP=l.getD a dP:=by rw[aP,ee h,<-aP]
theorem aa3{l:List PD}{q:PD}{a:Nat}(ha:a<l.length):(yc l a l.length).Sublist (yc (l++[q]) a (l.length+1)):=by
 have e:yc l a l.length=yc (l++[q]) a l.length:=by unfold yc;congr 1;refine List.filter_congr λb hb=>?_;rw[iG]at hb;rw[xF ha,xF hb]
 rw[e];unfold yc;rw[eR,mC,dY];exact List.sublist_append_left _ _
theorem aa1{l:List PD}{q:PD}(i:Nat)(h:i<=l.length):(CK l i).Sublist (CK (l++[q]) i):=by
 induction i with
 |zero=>rw[CK,List.range_zero,List.flatMap_nil];exact List.nil_sublist _
 |succ i ih=>
  have e1:=uY (l:=l) (i:=i);have e2:=uY (l:=l++[q]) (i:=i);have e3:=aa3 (l:=l) (q:=q) (a:=i) (by omega);have e4:(l++[q]).length=l.length+1:=by rw[bU];rfl
  rw[e4]at e2;rw[<-e1,<-e2];exact List.Sublist.append (ih (by omega)) e3
theorem aa0{l:List PD}{q:PD}(h:jb l=0)(h2:jb (l++[q])=0):(Oy l).Sublist (Oy (l++[q])):=by rw[Oy,Oy,if_pos h,if_pos h2,bU,nJ,<-uY];exact(aa1 _ (ak _)).trans (List.sublist_append_left _ _)
theorem CX{α:Type}{f:List Int->α->List Int}{H:α->Nat->Prop}{L:Nat}:∀{xs:List α}{U:List Int},U.length=L->(∀U x,x∈xs->U.length=L->(f U x).length=L/\∀j,(f U x).getD j 0≠0↔H x j\/U.getD j 0≠0)->(xs.foldl f U).length=L/\∀j,(xs.foldl f U).getD j 0≠0↔(∃x∈xs,H x j)\/U.getD j 0≠0
 |[],U,hU,_=>⟨hU,λj=>⟨.inr,λh=>h.elim (λ⟨_,h,_⟩=>absurd h (eB)) id⟩⟩
 |x::xs,U,hU,hf=>by
  obtain⟨h1,h2⟩:=hf U x (fH ..) hU;obtain⟨h3,h4⟩:=CX (xs:=xs) h1 λU y hy=>hf U y (jZ _ hy);refine⟨h3,λj=>?_⟩;rw[gp,h4,h2];constructor
  .rintro(⟨y,hy,h⟩|h|h);.exact .inl ⟨y,jZ _ hy,h⟩
   .exact .inl ⟨x,fH ..,h⟩
   exact .inr h
  rintro(⟨y,hy,h⟩|h)
  .rcases bw.1 hy with rfl|hy;.exact .inr (.inl h)
   exact .inl ⟨y,hy,h⟩
  exact .inr (.inr h)
theorem U6{U:List Int}{k j:Nat}(hk:k<U.length):(U.set k 1).getD j 0≠0↔j=k\/U.getD j 0≠0:=by
 by_cases e:k=j;.subst e;rw[aP,List.getElem?_set_self hk];simp
 rw[aP,List.getElem?_set_ne e,<-aP];exact⟨.inr,λh=>h.elim (λh=>absurd h.symm e) id⟩
def Yb(a b:Nat)(s:aG)(j:Nat):Prop:=j=2*a+(eg s.1 1).toNat\/j=2*b+(eg s.2.1 0).toNat
theorem acg{n w:Int}(h:w=0\/w=1):(eg n w).toNat<2:=by unfold eg;split<;>omega
section
variable {l:List PD} {U:List Int} {a b k j:Nat}
theorem aas(hU:U.length=2*l.length)(ha:a<l.length)(hb:b<l.length):(Ma l U a b k).length=2*l.length/\∀j,(Ma l U a b k).getD j 0≠0↔(∃s∈(bS (l.getD a dP) (l.getD b dP)).take k,Yb a b s j)\/U.getD j 0≠0:=by
 refine CX hU λU s _ hU=>?_;have h1:=acg (n:=s.1) (w:=1) (.inr rfl);have h2:=acg (n:=s.2.1) (w:=0) (.inl rfl);unfold mu1;refine⟨by rw[List.length_set,List.length_set,hU],λj=>?_⟩;rw[U6 (by rw[List.length_set];omega),U6 (by omega)];unfold Yb;constructor
 .rintro(h|h|h);.exact .inl (.inr h)
  .exact .inl (.inl h)
  exact .inr h
 rintro((h|h)|h);.exact .inr (.inl h)
 .exact .inl h
 exact .inr (.inr h)
theorem aau (hU:U.length=2*l.length) (ha:a<l.length) (hb:b≤l.length):(Bl l U a b).length=2*l.length∧∀ j,(Bl l U a b).getD j 0≠0↔(∃ c∈List.range b,a≠c∧∃ s∈bS (l.getD a dP) (l.getD c dP),Yb a c s j)∨U.getD j 0≠0:=by
 refine CX (H:=fun c j=>a≠c∧∃ s∈bS (l.getD a dP) (l.getD c dP),Yb a c s j) hU fun U c hc hU => ?_
 rw[iG] at hc
 by_cases e:a=c
 ·rw[if_pos e]
  exact⟨hU,fun j=>⟨.inr,fun h=>h.elim (fun h=>absurd e h.1) id⟩⟩
 ·rw[if_neg e]
  obtain⟨h1,h2⟩:=aas (k:=(bS (l.getD a dP) (l.getD c dP)).length) hU ha (b:=c) (by omega)
  refine⟨h1,fun j => ?_⟩
  rw[h2,iH]
  exact or_congr ⟨fun h=>⟨e,h⟩,fun h=>h.2⟩ Iff.rfl
theorem PJ (ha:a≤l.length):(pF l a).length=2*l.length∧∀ j,(pF l a).getD j 0≠0↔∃ x∈List.range a,∃ c∈List.range l.length,x≠c∧∃ s∈bS (l.getD x dP) (l.getD c dP),Yb x c s j:=by
 have:=CX (f:=fun U a=>Bl l U a l.length) (H:=fun x j=>∃ c∈List.range l.length,x≠c∧∃ s∈bS (l.getD x dP) (l.getD c dP),Yb x c s j) (L:=2*l.length) (xs:=List.range a) (U:=List.replicate (2*l.length) 0) List.length_replicate fun U x hx hU=>by
  rw[iG] at hx
  exact aau hU (by omega) (ak _)
 refine⟨this.1,fun j=>(this.2 j).trans ⟨fun h=>h.elim id fun h => ?_,.inl⟩⟩
 refine absurd ?_ h
 rw[aP,nK]
 split<;>rfl
theorem aaq {q:PD} (h:(pF l l.length).getD j 0≠0):(pF (l++[q]) (l.length+1)).getD j 0≠0:=by
 obtain⟨x,hx,c,hc,hne,s,hs,hh⟩:=((PJ (ak _)).2 j).1 h
 rw[iG] at hx hc
 refine((PJ (by rw[bU,nJ]; omega)).2 j).2 ⟨x,iG.2 (by omega),c,iG.2 (by rw[bU]; omega),hne,s,?_,hh⟩
 rw[xF hx,xF hc]
 exact hs
theorem XX{q:PD}(h:jb l=0)(h2:jb (l++[q])=0){x:List Int}(hx:x∈Mj (l++[q])):x.length=2/\(x.getD 0 0=(l.length:Int)\/x∈Mj l):=by
 rw[Mj,if_pos h2,bU,nJ]at hx;unfold yj at hx;rw[dM]at hx;obtain⟨j,hj,rfl⟩:=hx;rw[List.mem_filter,iG]at hj;refine⟨rfl,?_⟩;have h0:=of_decide_eq_true hj.2;by_cases e:j<2*l.length;.right;rw[Mj,if_pos h];unfold yj;refine dM.2 ⟨j,List.mem_filter.2 ⟨iG.2 e,eF ?_⟩,rfl⟩;exact Decidable.byContradiction λk=>aaq k h0
 left;show((j/2:Nat):Int)=_;omega
end
end Go.Tv
namespace Go.Tv
open Go Go.Di Go.Proofs
section
variable {l:List PD} {q:PD} {F:Nat->List Int} {st b:List aG} {k m:Nat}
theorem ZV(hl:∀p∈l,kP p)(qS:∀p∈l++[q],kP p)(h4:(l++[q]).length<=4)(hS:tD l st)(hk:k<l.length)(hh:¬kG st (k:Int)=true){n:Int}(hn:n∈qL l k):mL (Ao (l++[q])) st k n=mL (Ao l) st k n:=by
 have e4:(l++[q]).length=l.length+1:=by rw[bU];rfl
 unfold mL;split;.rfl
 rename_i h0;have hx:st.getD (st.length-1) nV∈st:=fF (P:=λx=>x∈st) (by omega) λ_ h=>h
 revert hx
 generalize st.getD (st.length-1) nV=x;intro hx;have hne:x.1≠(k:Int):=λe=>hh (List.any_eq_true.2 ⟨x,hx,by rw[e];exact oW _⟩);obtain⟨⟨a1,a2⟩,a3,a4⟩:=hS x hx;have ok:kP (l.getD k dP):=fF hk hl;rw[Vy hl (by omega) ⟨⟨a1,a2⟩,a3,a4⟩ hk hne (ok.Mc n hn),Vy qS h4 ⟨⟨a1,by omega⟩,a3,a4⟩ (by omega) hne (ok.Mc n hn),xF hk,xF (by omega)]
theorem aal(hl:∀p∈l,kP p)(qS:∀p∈l++[q],kP p)(h4:(l++[q]).length<=4)(hS:tD l st){p:aG×List Int}(hp:p∈tw l (Ao l) st l.length):p∈tw (l++[q]) (Ao (l++[q])) st (l++[q]).length:=by
 have e4:(l++[q]).length=l.length+1:=by rw[bU];rfl
 unfold tw at hp⊢;rw[qH]at hp⊢;obtain⟨k,hk,h⟩:=hp;rw[iG]at hk;refine⟨k,iG.2 (by omega),?_⟩;by_cases hh:kG st (k:Int)=true;.rw[if_pos hh]at h;exact absurd h eB
 rw[if_neg hh]at h⊢;have eq:qL (l++[q]) k=qL l k:=by show((l++[q]).getD k dP).2.2.2.1=_;rw[xF hk]
 unfold CF at h⊢;rw[iH]at h⊢;obtain⟨n,hn,he⟩:=C1.1 h;refine C1.2 ⟨n,by rw[eq];exact hn,?_⟩;rw[<-he];unfold TA;rw[ZV hl qS h4 hS hk hh hn]
theorem Ge.less (hl:∀p∈l,kP p)(qS:∀p∈l++[q],kP p)(h4:(l++[q]).length<=4):∀{r:Nat}{st:List aG},tD l st->Ge (l++[q]) (Ao (l++[q])) m r st->Ge l (Ao l) m r st
 |0,_,_,h=>by unfold Ge at h⊢;exact h
 |r+1,st,hS,h=>by unfold Ge at h⊢;exact⟨h.1,λp hp=>Ge.less hl qS h4 (aes hl hS (ak _) hp (s:=p.1.2.2.1)) (h.2 p (aal hl qS h4 hS hp))⟩
theorem Ge.down:∀{r:Nat}{st:List aG},Ge l F m (r+1) st->Ge l F m r st
 |0,st,h=>by unfold Ge at h⊢;exact h.1
 |r+1,st,h=>by unfold Ge at h⊢;exact⟨h.1,λp hp=>Ge.down (h.2 p hp)⟩
theorem VJ:∀{r:Nat}{st b:List aG},Ge l F m r st->b.length<=m->(qq l F r st b).length<=m
 |0,st,b,h,hb=>by unfold Ge at h;show(nR st b).length<=m;unfold nR;split<;>omega
 |r+1,st,b,h,hb=>by
  unfold Ge at h;have key:∀(ns:List (aG×List Int))(c:List aG),(∀p∈ns,Ge l F m r (st++[p.1]))->c.length<=m->(ns.foldl (λb p=>qq l F r (st++[p.1]) b) c).length<=m:=by
   intro ns;induction ns with
   |nil=>exactλc _ hc=>hc
   |cons p ns ih=>exactλc hp hc=>ih _ (λx hx=>hp x (jZ _ hx)) (VJ (hp p (fH ..)) hc)
  refine key _ _ h.2 ?_;unfold nR;split<;>omega
theorem Sb(h:jb l=0)(h2:jb (l++[q])=0)(h0:l.length≠0):(rJ l).length<=(rJ (l++[q])).length:=by
 obtain⟨k1,k2⟩:=yZ h;obtain⟨k3,k4⟩:=yZ h2;have e4:(l++[q]).length=l.length+1:=by rw[bU];rfl
 have g:=(Qn (l:=l++[q]) (F:=Ao (l++[q])) (l++[q]).length (st:=[]) (b:=[])).2.1;rw[rJ,rJ,if_pos ⟨h,h0⟩,if_pos ⟨h2,by omega⟩];refine VJ (Ge.less k2 k4 k3 (λx hx=>absurd hx eB) ?_) (kT _);generalize(qq (l++[q]) (Ao (l++[q])) (l++[q]).length [] []).length=M at g⊢;rw[e4]at g;exact g.down
end
end Go.Tv
namespace Go.Tv
open Go Go.Di Go.Proofs
theorem IY{l:List aU.den}{u lo q:List Int}{w:Int}(h:∀p∈l,kP p)(ho:Ok u lo w q):∀p∈l++[(u,lo,w,q,())],kP p:=λp hp=>by
 rcases eY.1 hp with hp|hp;· exact h p hp
 rw[bI.1 hp];exact ho
def afP(te:List TV)(i:Nat)(k:Int->LA):LA:=
 match te.getD i .unk with
 |.val (.int .i64 n)=>k n
 |_=>.un 0
def J14:List (Nat×LA):=[(4,.dep λte tS=>afP te 6 λk=>match te.getD 0 .unk with
 |.ptr p _=>.ex Nat λm=>.ex (List aU.den) λl=>.ex (List Int) λr=>.ex Int λz=>.st {sl:=[(5,.sl aU l (.je tS.length)),(6,bp m)],pl:=[(p,Cw r z)],own:=[(26,4)],cO:=[(l.length+m:Int)<=k\/(l.length+m:Int)=0,∀p∈l,kP p],m:=m}
 |_=>.un 0)]
def D15:List TV->Dn
 |[.sl (.pair (.sl (.int .i64)) (.pair (.sl (.int .i64)) (.pair (.int .i64) (.pair (.sl (.int .i64)) .unit)))) ps .no]=>some ([ps≠[],ps.length<=1000,∀p∈ps,kP p],.res (.sl aU ps .no) [] [],
  [(4,.dep λ_ tS=>.ex Nat λi=>.st {sl:=[(3,.sl aU (ps.take i) (.je tS.length)),(4,bp i)],own:=[(26,4)],cO:=[i<=ps.length],m:=ps.length-i})])
 |_=>none
noncomputable def T15:eZ:=T0d.dQ 42 λa=>dS (D20 a)
def v15.q1 (p0:List (aU).den)(p1:List aU.den)(p2:Nat)(p3:Int)(p4:Nat):Prop:=p1=List.take p2 p0/\p3=(↑p2:Int)/\p2<=p0.length/\(p0.length-p2)<p4
theorem v15:VO T15 Try.f15 26 D15:=by
 refine afV λa=>?_;unfold D15;split
 rotate_left
 .trivial
 rename_i ps;intro hp;refine pE (A:=(∃(a:Nat),v15.q1 ps [] a (0:Int) 1000000)/\∀(a:Nat),a<=ps.length->aS (decide ((↑a:Int)<(↑ps.length:Int))) ((0<=(↑a:Int)/\(↑a:Int)<(↑ps.length:Int))/\Sh (ps.getD a ([],[],0,[],())).1 (ps.getD a ([],[],0,[],())).2.1 (ps.getD a ([],[],0,[],())).2.2.2.1/\(List.take a ps).length+1<=1000000000/\dw ((↑a:Int)+1)/\∃(x:Nat),ps=ps/\mU aU.den/\v15.q1 ps (List.take a ps++[((ps.getD a ([],[],0,[],())).1,(ps.getD a ([],[],0,[],())).2.1,(ps.getD a ([],[],0,[],())).2.2.1,(ps.getD a ([],[],0,[],())).2.2.2.1,())]) x ((↑a:Int)+1) (ps.length-a)) (List.take a ps≠[]/\List.take a ps=ps/\True)) (by kernel_rfl) ?_;unfold v15.q1;simp only[ek,dw,iz,true_and,and_true,eq_self];obtain⟨h0,h1,h2,-⟩:=hp;refine⟨⟨0,rfl,rfl,by omega,by omega⟩,λa ha=>⟨λh=>⟨⟨by omega,by omega⟩,Ii (uX (P:=kP) (by omega) h2),by rw[List.length_take];omega,⟨by omega,by omega⟩,a+1,?_,by omega,by omega,by omega⟩,λh=>?_⟩⟩;· rw[List.take_add_one,bP (by omega)];simp only[Option.toList_some,aP,bP (show a<ps.length by omega),kU]
 have e:ps.take a=ps:=List.take_of_length_le (by omega);rw[e];exact⟨h0,rfl⟩
noncomputable def H4:eZ:=(((((((T6.oJ 41 λa c=>dS (D27 a c)).H6 14 Try.f14 J14).dQ 42 λa=>dS (D20 a)).Zn 15 26 λa=>dS (D15 a)).dQ 16 λa=>dS (adF a)).dQ 17 λa=>dS (adE a)).dQ 18 λa=>dS (adD a)).dQ 19 λa=>dS (adC a)
def F4(te:List TV)(s:Nat)(k:List (List Int)->LA):LA:=
 match te.getD s .unk with
 |.sl (.sl (.int .i64)) x _=>k x
 |_=>.un 0
def U0(te:List TV)(s:Nat)(k:List PD->LA):LA:=
 match te.getD s .unk with
 |.sl (.pair (.sl (.int .i64)) (.pair (.sl (.int .i64)) (.pair (.int .i64) (.pair (.sl (.int .i64)) .unit)))) x _=>k x
 |_=>.un 0
def acj(te:List TV)(s:Nat)(k:Nat->LA):LA:=
 match te.getD s .unk with
 |.ptr p _=>k p
 |_=>.un 0
def D4m:List TV->Dn
 |[.sl (.int .i64) _ .no]=>some ([],.res (iD true) [] [],
  [(2,.dep λte _=>acj te 3 λp=>.ex (List PD) λps=>.ex (List Int) λr=>.ex Int λz=>.st {sl:=[(4,.sl aU ps .no)],pl:=[(p,Cw r z)],cO:=[1<=ps.length,ps.length<=2,∀p∈ps,kP p]}),
   (3,.dep λte _=>acj te 3 λp=>U0 te 4 λps=>.ex (List PD) λms=>.ex (List Int) λr=>.ex Int λz=>.st {sl:=[(5,.sl aU ms .no)],pl:=[(p,Cw r z)],cO:=[∃q,kP q/\ms=ps++[q]]}),
   (15,.dep λte _=>F4 te 12 λx=>.ex Nat λi=>.st {sl:=[(18,bp i)],cO:=[i<=x.length],m:=x.length-i}),
   (25,.dep λte _=>U0 te 4 λps=>F4 te 12 λx=>F4 te 10 λy=>fZ te 18 λi=>.ex Nat λk=>.ex Bool λo=>.st {sl:=[(19,iD o),(20,bp k)],cO:=[k<=y.length,o=(((x.getD i []).getD 0 0==(ps.length:Int))||(y.take k).any λz=>JM z (x.getD i []))],m:=y.length-k}),
   (33,.dep λte _=>F4 te 14 λx=>.ex Nat λi=>.st {sl:=[(21,bp i)],cO:=[i<=x.length],m:=x.length-i}),
   (40,.dep λte _=>F4 te 14 λx=>F4 te 16 λy=>fZ te 21 λi=>.ex Nat λk=>.ex Bool λo=>.st {sl:=[(22,iD o),(23,bp k)],cO:=[k<=y.length,o=((y.take k).any λz=>JM (x.getD i []) z)],m:=y.length-k})])
 |_=>none
theorem zK{α:Type}{f:α->Bool}{u:List α}{a:Nat}{d:α}(h:a<u.length):(u.take (a+1)).any f=((u.take a).any f||f (u.getD a d)):=by rw[List.take_add_one,bP h,aP,bP h];simp only[List.any_append,Option.toList_some,List.any_cons,List.any_nil,Bool.or_false,kU]
theorem aeT{l:List PD}{x:List Int}(h:x∈Mj l):x.length=2:=by
 unfold Mj yj at h;split at h;· obtain⟨j,-,rfl⟩:=dM.1 h;rfl
 cases h
theorem VF{l:List PD}{x:List Int}(h:x∈Oy l):x.length=2:=by
 unfold Oy CK yc at h;split at h;· obtain⟨a,-,h⟩:=qH.1 h;obtain⟨j,-,rfl⟩:=dM.1 h;rfl
 cases h
theorem getD_in{α:Type}{l:List α}{i:Nat}{d:α}(h:i<l.length):l.getD i d∈l:=by rw[aP,bP h];exact sU h
def sx.q1 (p0:List aU.den)(p1:Nat)(p2:Int)(p3:List Int)(p4:Int)(p5 p6:List Int)(p7:Int)(p8 p9:List Int)(HA:Int):Prop:=p0.length+1<=1000000000/\dw ((↑p1:Int)-1)/\∃(a:Nat),∃(x:List aU.den),∃(y:List Int),∃(z:Int),mU aU.den/\p0++[(p5,p6,p7,p8,())]=x/\(↑p1:Int)-1=(↑a:Int)/\p9=y/\HA=z/\((↑x.length:Int)+(↑a:Int)<=p2\/(↑x.length:Int)+(↑a:Int)=0)/\(∀(p:aU.den),p∈x->kP p)/\(a)<(p1)
def sx.q2 (p0:Nat)(p1:List PD)(p2 p3 p4 p5:List (List Int))(p6:Nat)(p7:List Int)(p8:Int)(p9 HA:Bool):Prop:=dw ((↑p0:Int)+1)/\∃(a:Nat),∃(x:Bool),p1=p1/\p2=p2/\p3=p3/\p4=p4/\p5=p5/\(↑p6:Int)=(↑p6:Int)/\HA=x/\(↑p0:Int)+1=(↑a:Int)/\(↑p6:Int)=(↑p6:Int)/\p3=p3/\(↑p3.length:Int)=(↑p3.length:Int)/\true=true/\p3=p3/\(↑p6:Int)=(↑p6:Int)/\p3=p3/\p6=p6/\0=0/\p3.getD p6 []=p3.getD p6 []/\(↑(List.length (p3.getD p6 [])):Int)=(↑(List.length (p3.getD p6 [])):Int)/\false=false/\p3=p3/\(↑p6:Int)=(↑p6:Int)/\p3=p3/\p6=p6/\0=0/\p3.getD p6 []=p3.getD p6 []/\p3.getD p6 []=p3.getD p6 []/\0=0/\0=0/\List.getD (p3.getD p6 []) 0 0=List.getD (p3.getD p6 []) 0 (0:Int)/\p1=p1/\(↑p1.length:Int)=(↑p1.length:Int)/\(List.getD (p3.getD p6 []) 0 (0:Int)==(↑p1.length:Int))=(List.getD (p3.getD p6 []) 0 (0:Int)==(↑p1.length:Int))/\p7=p7/\p8=p8/\a<=p2.length/\x=((p3.getD p6 []).getD 0 0==(↑p1.length:Int)||(List.take a p2).any λ(z:List Int)=>JM z (p3.getD (↑p6:Int).toNat []))/\(p2.length-a)<(p2.length-p0)
def sx.q3 (p0:Nat)(p1 p2:List (List Int))(p3:Nat)(p4:List Int)(p5:Int)(p6 p7:Bool):Prop:=dw ((↑p0:Int)+1)/\∃(a:Nat),∃(x:Bool),p1=p1/\p2=p2/\(↑p3:Int)=(↑p3:Int)/\p7=x/\(↑p0:Int)+1=(↑a:Int)/\(↑p3:Int)=(↑p3:Int)/\p1=p1/\(↑p1.length:Int)=(↑p1.length:Int)/\true=true/\p4=p4/\p5=p5/\a<=p2.length/\(x=(List.take a p2).any λ(z:List Int)=>JM (p1.getD (↑p3:Int).toNat []) z)/\(p2.length-a)<(p2.length-p0)
def sx.q4 (p0:Bool)(p1:List (List Int))(p2:Nat->Bool)(p3 p4:Nat):Prop:=∃(a:Nat),∃(a_1:Bool),p0=a_1/\0=(↑a:Int)/\a<=p1.length/\a_1=p2 a/\(p1.length-a)<1000000
def sx.q5 (p0 p1:Int)(p2:Nat)(p3:List (List Int))(p4 p5:Nat):Prop:=p0=p1/\p2<=p3.length/\(p3.length-p2)<p5
def sx.q6 (p0:List PD)(p1:Prop):Prop:=p0.length<=1000/\(∀(p:(aU).den),p∈p0->gv p)/\p1
def sx.q7 (p0:Nat)(p1:List (List Int))(p2:Prop):Prop:=(0<=(↑p0:Int)/\(↑p0:Int)<(↑p1.length:Int))/\p2
theorem sx:VI H4 Try.f4 [some .bool] D4m 1:=by
 refine gT λa=>?_;unfold D4m;split
 rotate_left
 .trivial
 rename_i ja;intro hp;refine pE (A:=((1:Int)<=1000/\(-10000:Int)<=1/\∀(a:Int)(y:List Int)(j:Int),0<=a->a<=1\/a=0->(∃(r:Nat),∃(u:List aU.den),∃(i:List Int),∃(e:Int),[]=u/\a=(↑r:Int)/\y=i/\j=e/\((↑u.length:Int)+(↑r:Int)<=a\/(↑u.length:Int)+(↑r:Int)=0)/\(∀(p:aU.den),p∈u->kP p)/\(r)<1000000)/\∀(r:Nat)(u:List aU.den)(i:List Int)(e:Int),(↑u.length:Int)+(↑r:Int)<=a\/(↑u.length:Int)+(↑r:Int)=0->(∀(p:aU.den),p∈u->kP p)->aS (decide ((↑r:Int)>0)) (aS (decide ((↑u.length:Int)>0)) ((2:Int)<=1000/\(0:Int)<=2/\∀(h:Bool)(d:Int)(g:List Int)(n:Int),aS h (dw ((↑u.length:Int)-1)/\(↑u.length:Int)-1<=1000/\(-10000:Int)<=(↑u.length:Int)-1/\∀(s:Int)(v:List Int)(c:Int),0<=s->s<=(↑u.length:Int)-1\/s=0->(0<=s/\s<(↑u.length:Int))/\Ok (u.getD s.toNat ([],[],0,[],())).1 (u.getD s.toNat ([],[],0,[],())).2.1 (u.getD s.toNat ([],[],0,[],())).2.2.1 (u.getD s.toNat ([],[],0,[],())).2.2.2.1/\∀(w b:List Int)(t:Int)(X k:List Int)(m:Int),Ok w b t X->w=List.map (λ(x:cS.den)=>(9:cS.den)-x) (u.getD s.toNat ([],[],0,[],())).2.1->sx.q1 u r a i e w b t X k m) ((3:Int)<=5/\(5:Int)<=8/\∀(s v:List Int)(c:Int)(w b:List Int)(t:Int),Ok s v c w->(↑s.length:Int)<=5->sx.q1 u r a i e s v c w b t)) ((3:Int)<=5/\(5:Int)<=8/\∀(h d:List Int)(g:Int)(n s:List Int)(v:Int),Ok h d g n->(↑h.length:Int)<=5->sx.q1 u r a i e h d g n s v)) ((3:Int)<=5/\(5:Int)<=8/\∀(a h:List Int)(d:Int)(g n:List Int)(s:Int),Ok a h d g->(↑a.length:Int)<=5->u.length+1<=1000000000/\∃(v:List PD),∃(c:List Int),∃(w:Int),false=false/\u++[(a,h,d,g,())]=v/\n=c/\s=w/\1<=v.length/\v.length<=2/\(∀(p:PD),p∈v->kP p)/\True))/\∀(a:List PD)(y:List Int)(j:Int),1<=a.length->a.length<=2->(∀(p:PD),p∈a->kP p)->(a≠[]/\a.length<=1000/\(∀(p:(aU).den),p∈a->kP p)/\((0:Int)<=0/\0<(↑a.length:Int))/\Ok (a.getD 0 ([],[],0,[],())).1 (a.getD 0 ([],[],0,[],())).2.1 (a.getD 0 ([],[],0,[],())).2.2.1 (a.getD 0 ([],[],0,[],())).2.2.2.1/\∀(r u:List Int)(i:Int)(e h:List Int)(d:Int),Ok r u i e->r=List.map (λ(x:cS.den)=>(9:cS.den)-x) (a.getD 0 ([],[],0,[],())).2.1->a.length+1<=1000000000/\∃(g:List PD),∃(n:List Int),∃(s:Int),false=false/\a=a/\a++[(r,u,i,e,())]=g/\h=n/\d=s/\(∃(q:aU.den),kP q/\g=a++[q])/\True)/\∀(r:List PD)(u:List Int)(i:Int),(∃(q:aU.den),kP q/\r=a++[q])->sx.q6 a (∀(e:List aG)(h:Int),e=rJ a->h=uv a->sx.q6 r (∀(d:List aG)(g:Int),d=rJ r->g=uv r->sx.q6 a (∀(n:List (List Int))(s:Int),n=Mj a->s=jb a->sx.q6 r (∀(v:List (List Int))(c:Int),v=Mj r->c=jb r->sx.q6 a (∀(w:List (List Int))(b:Int),w=Oy a->b=jb a->sx.q6 r (∀(t:List (List Int))(X:Int),t=Oy r->X=jb r->aS (h !=0) (false=true/\True) (aS (g !=0) (false=true/\True) (aS (s !=0) (false=true/\True) (aS (c !=0) (false=true/\True) (aS (b !=0) (false=true/\True) (aS (X !=0) (false=true/\True) (aS (decide ((↑d.length:Int)<(↑e.length:Int))) (false=true/\True) (dw ((2:Int)*(↑r.length:Int))/\aS (decide ((↑v.length:Int)>2*(↑r.length:Int))) (false=true/\True) (aS (decide ((↑w.length:Int)>(↑t.length:Int))) (false=true/\True) ((∃(a:Nat),sx.q5 (0:Int) (↑a:Int) a v 18 1000000)/\∀(k:Nat),k<=v.length->aS (decide ((↑k:Int)<(↑v.length:Int))) (sx.q7 k v (aS ((↑(List.length (v.getD k [])):Int) !=2) (false=true/\True) (sx.q7 k v (((0:Int)<=0/\0<(↑(List.length (v.getD k [])):Int))/\sx.q4 (List.getD (v.getD k []) 0 (0:Int)==(↑a.length:Int)) n (λ(m:Nat)=>(v.getD k []).getD 0 0==(↑a.length:Int)||(List.take m n).any λ(z:List Int)=>JM z (v.getD (↑k:Int).toNat [])) 19 20/\∀(m:Nat)(f:Bool),m<=n.length->f=((v.getD k []).getD 0 0==(↑a.length:Int)||(List.take m n).any λ(z:List Int)=>JM z (v.getD (↑k:Int).toNat []))->aS (decide ((↑m:Int)<(↑n.length:Int))) (aS f (sx.q2 m a n v w t k u i f true) (sx.q7 m n (sx.q7 k v (List.length (n.getD m [])<=1000/\List.length (v.getD k [])<=1000/\sx.q2 m a n v w t k u i f (JM (n.getD m []) (v.getD k [])))))) (aS (!f) (false=true/\True) (dw ((↑k:Int)+1)/\∃(Y:Nat),a=a/\n=n/\v=v/\w=w/\t=t/\(↑k:Int)+1=(↑Y:Int)/\u=u/\sx.q5 i i Y v 18 (v.length-k))))))) ((∃(a:Nat),sx.q5 (0:Int) (↑a:Int) a w 21 1000000)/\∀(a:Nat),a<=w.length->aS (decide ((↑a:Int)<(↑w.length:Int))) (sx.q4 false t (λ(m:Nat)=>(List.take m t).any λ(z:List Int)=>JM (w.getD (↑a:Int).toNat []) z) 22 23/\∀(m:Nat)(f:Bool),m<=t.length->(f=(List.take m t).any λ(z:List Int)=>JM (w.getD (↑a:Int).toNat []) z)->aS (decide ((↑m:Int)<(↑t.length:Int))) (aS f (sx.q3 m w t a u i f true) (sx.q7 a w (sx.q7 m t (List.length (w.getD a [])<=1000/\List.length (t.getD m [])<=1000/\sx.q3 m w t a u i f (JM (w.getD a []) (t.getD m [])))))) (aS (!f) (false=true/\True) (dw ((↑a:Int)+1)/\∃(Y:Nat),w=w/\t=t/\(↑a:Int)+1=(↑Y:Int)/\u=u/\sx.q5 i i Y w 21 (w.length-a)))) (true=true/\True)))))))))))))))))) (by kernel_rfl) ?_;unfold sx.q7 sx.q6 sx.q5 sx.q4 sx.q3 sx.q2 sx.q1;simp only[ek,fS,ij,eq_self,true_and,and_true,dw,iz,aI];refine⟨⟨by omega,by omega,λm0 r0 z0 g0 g1=>⟨⟨m0.toNat,[],r0,z0,rfl,by omega,rfl,rfl,by simp only[mz];omega,by simp,by omega⟩,λm L r z hc hL=>⟨λhm=>⟨λhLn=>?_,λhLn=>?_⟩,λhm=>?_⟩⟩⟩,λps hr hz h1 h2 Ta=>?_⟩
 .have fin:∀(u lo q:List Int)(w:Int)(r1:List Int)(z1:Int),Ok u lo w q->L.length+1<=1000000000/\(-9223372036854775808<=(m:Int)-1/\(m:Int)-1<=9223372036854775807)/\∃(a:Nat)(a_1:List aU.den)(a_2:List Int)(a_3:Int),L++[(u,lo,w,q,())]=a_1/\(m:Int)-1=(a:Int)/\r1=a_2/\z1=a_3/\((a_1.length:Int)+(a:Int)<=m0\/(a_1.length:Int)+(a:Int)=0)/\(∀(p:aU.den),p∈a_1->kP p)/\a<m:=λu lo q w r1 z1 ho=>
   ⟨by omega,⟨by omega,by omega⟩,m-1,_,_,_,rfl,by omega,rfl,rfl,.inl (by rw[bU,nJ];omega),IY hL ho,by omega⟩
  refine⟨by omega,by omega,λb x2 x3 x4=>mc.2 ⟨λ_=>⟨⟨by omega,by omega⟩,by omega,by omega,λk x5 x6 k0 k1=>⟨⟨k0,by omega⟩,(fF (P:=kP) (by omega) hL:kP (L.getD k.toNat dP)),λu lo w q r1 z1 ho hu=>fin u lo q w r1 z1 ho⟩⟩,λ_=>⟨by omega,by omega,λu lo w q r1 z1 ho hu=>fin u lo q w r1 z1 ho⟩⟩⟩
 .refine⟨by omega,by omega,λu lo w q r1 z1 ho hu=>⟨by omega,⟨by omega,by omega⟩,m-1,_,_,_,rfl,by omega,rfl,rfl,.inl (by rw[bU,nJ];omega),IY hL ho,by omega⟩⟩
 .refine⟨by omega,by omega,λu lo w q r1 z1 ho hu=>⟨by omega,_,_,_,rfl,rfl,rfl,by rw[bU,nJ];omega,by rw[bU,nJ];omega,IY hL ho⟩⟩
 refine⟨⟨by rintro rfl;simp at h1,by omega,Ta,by omega,(uX (P:=kP) (by omega) Ta:kP (ps.getD 0 dP)),λu lo w q r1 z1 ho hu=>⟨by omega,_,_,_,rfl,rfl,rfl,(u,lo,w,q,()),ho,rfl⟩⟩,λms r2 z2 hms=>?_⟩;obtain⟨q,hq,rfl⟩:=hms;have hq2:∀p∈ps++[q],kP p:=λp hp=>by
  rcases eY.1 hp with hp|hp;· exact Ta p hp
  rw[bI.1 hp];exact hq
 have hl:(ps++[q]).length=ps.length+1:=by simp
 have c1:jb ps=0:=by unfold jb;rw[if_neg (by omega)];exact Jc Ta
 have c2:jb (ps++[q])=0:=by unfold jb;rw[if_neg (by omega)];exact Jc hq2
 have s1:∀p∈ps,gv p:=λp hp=>Ii (Ta p hp);have s2:∀p∈ps++[q],gv p:=λp hp=>Ii (hq2 p hp);refine⟨by omega,s1,λx e hx he=>⟨by omega,s2,λy f hy hf=>⟨by omega,s1,λu g hu hg=>⟨by omega,s2,λv h hv hh=>⟨by omega,s1,λs i hs hi=>⟨by omega,s2,λt j ht hj=>?_⟩⟩⟩⟩⟩⟩;have e0:e=0:=by rw[he,uv,if_pos c1,if_neg (by omega)]
 have f0:f=0:=by rw[hf,uv,if_pos c2,if_neg (by omega)]
 have hxy:x.length<=y.length:=by rw[hx,hy];exact Sb c1 c2 (by omega)
 have hst:s.Sublist t:=by rw[hs,ht];exact aa0 c1 c2
 have S8:v.length<=2*(ps++[q]).length:=by rw[hv,Mj,if_pos c2];exact Je
 refine⟨λ_=>⟨λ_=>⟨λ_=>⟨λ_=>⟨λ_=>⟨λ_=>⟨λk=>by omega,λ_=>⟨⟨by omega,by omega⟩,λk=>by omega,λ_=>⟨λk=>?_,λ_=>⟨?_,?_⟩⟩⟩⟩,λk=>k (hj.trans c2)⟩,λk=>k (hi.trans c1)⟩,λk=>k (hh.trans c2)⟩,λk=>k (hg.trans c1)⟩,λk=>k f0⟩,λk=>k e0⟩;· have:=hst.length_le;omega
 .exact⟨0,rfl,by omega,by omega⟩
 have hul:u.length<=2*ps.length:=by rw[hu,Mj,if_pos c1];exact Je
 have htl:t.length<=(ps++[q]).length*(ps++[q]).length:=by rw[ht,Oy,if_pos c2];exact Ja _
 have htl:t.length<=9:=by rw[hl]at htl;have:(ps.length+1)*(ps.length+1)<=3*3:=Nat.mul_le_mul (by omega) (by omega);omega
 have hsl:=hst.length_le;intro k hk;refine⟨λhlt=>?_,λ_=>⟨⟨0,rfl,by omega,by omega⟩,λk hk=>⟨λhlt=>?_,λ_=>trivial⟩⟩⟩
 .have hm:v.getD k []∈Mj (ps++[q]):=by rw[<-hv];exact getD_in (by omega)
  obtain⟨w1,w2⟩:=XX c1 c2 hm;refine⟨⟨by omega,by omega⟩,λ_=>⟨⟨by omega,by omega⟩,⟨by omega,by omega⟩,⟨0,_,rfl,rfl,by omega,by simp,by omega⟩,λa o ha ho=>⟨λqS=>?_,λhn=>?_⟩⟩,λh=>h (by omega)⟩
  .have hu2:(u.getD a []).length=2:=aeT (l:=ps) (by rw[<-hu];exact getD_in (by omega));refine mc.2 ⟨λho1=>⟨⟨by omega,by omega⟩,a+1,_,rfl,by omega,by omega,?_,by omega⟩,λho1=>⟨⟨by omega,by omega⟩,⟨by omega,by omega⟩,by omega,by omega,⟨by omega,by omega⟩,a+1,_,rfl,by omega,by omega,?_,by omega⟩⟩;· rw[zK (d:=[]) (by omega),<-Bool.or_assoc,<-ho,ho1];rfl
   rw[zK (d:=[]) (by omega),<-Bool.or_assoc,<-ho,ho1];rfl
  have e:u.take a=u:=List.take_of_length_le (by omega);have h1:o=true:=by
   rw[ho,e,gY];rcases w2 with w2|w2;· exact .inl (by rw[w2];simp)
   exact .inr (List.any_eq_true.2 ⟨_,hu▸w2,by simp[JM]⟩)
  rw[h1];exact⟨⟨by omega,by omega⟩,k+1,by omega,by omega,by omega⟩
 have hs2:(s.getD k []).length=2:=VF (l:=ps) (by rw[<-hs];exact getD_in (by omega));refine⟨⟨0,_,rfl,rfl,by omega,by simp,by omega⟩,λa o ha ho=>⟨λqS=>?_,λhn=>?_⟩⟩
 .have ht2:(t.getD a []).length=2:=VF (l:=ps++[q]) (by rw[<-ht];exact getD_in (by omega));refine mc.2 ⟨λho1=>⟨⟨by omega,by omega⟩,a+1,_,rfl,by omega,by omega,?_,by omega⟩,λho1=>⟨⟨by omega,by omega⟩,⟨by omega,by omega⟩,by omega,by omega,⟨by omega,by omega⟩,a+1,_,rfl,by omega,by omega,?_,by omega⟩⟩;· rw[zK (d:=[]) (by omega),<-ho,ho1];rfl
  rw[zK (d:=[]) (by omega),<-ho,ho1];rfl
 have e:t.take a=t:=List.take_of_length_le (by omega);have h1:o=true:=by rw[ho,e];exact List.any_eq_true.2 ⟨_,hst.subset (getD_in (i:=k) (d:=[]) (by omega)),by simp[JM]⟩
 rw[h1];exact⟨⟨by omega,by omega⟩,k+1,by omega,by omega,by omega⟩
end Go.Tv
namespace Go.Tv
open Go Go.Di Go.Proofs
def tM:Code->Nat
 |.seq a b|.cond _ a b=>tM a+tM b
 |.block _ c|.loop c|.scope c=>tM c
 |.rangeFunc _ _ _ _=>1
 |_=>0
theorem mh:∀{c:Code},tM c=0->gG c=none/\∀y,wP y c
 |.seq a b,h=>by simp only[tM]at h;obtain⟨h1,h2⟩:=mh (c:=a) (by omega);obtain⟨h3,h4⟩:=mh (c:=b) (by omega);exact⟨by simp only[gG,h1,h3],λy=>⟨h2 y,h4 y⟩⟩
 |.cond _ a b,h=>by simp only[tM]at h;obtain⟨h1,h2⟩:=mh (c:=a) (by omega);obtain⟨h3,h4⟩:=mh (c:=b) (by omega);exact⟨by simp only[gG,h1,h3],λy=>⟨h2 y,h4 y⟩⟩
 |.block _ c,h=>mh (c:=c) h
 |.loop c,h=>mh (c:=c) h
 |.scope c,h=>mh (c:=c) h
 |.rangeFunc _ _ _ _,h=>by cases h
 |.skip,_=>⟨rfl,λ_=>trivial⟩
 |.label _,_=>⟨rfl,λ_=>trivial⟩
 |.exit _,_=>⟨rfl,λ_=>trivial⟩
 |.ret,_=>⟨rfl,λ_=>trivial⟩
 |.region _ _ _,_=>⟨rfl,λ_=>trivial⟩
 |.goto _,_=>⟨rfl,λ_=>trivial⟩
 |.refuse _,_=>⟨rfl,λ_=>trivial⟩
theorem uL:∀{c:Code},tM c=1->∃y,gG c=some y/\wP y c
 |.seq a b,h=>by
  simp only[tM]at h;by_cases h0:tM a=0;.obtain⟨h1,h2⟩:=mh h0;obtain⟨y,h3,h4⟩:=uL (c:=b) (by omega);exact⟨y,by simp only[gG,h1,h3],h2 y,h4⟩
  obtain⟨y,h3,h4⟩:=uL (c:=a) (by omega);exact⟨y,by simp only[gG,h3],h4,(mh (c:=b) (by omega)).2 y⟩
 |.cond _ a b,h=>by
  simp only[tM]at h;by_cases h0:tM a=0;.obtain⟨h1,h2⟩:=mh h0;obtain⟨y,h3,h4⟩:=uL (c:=b) (by omega);exact⟨y,by simp only[gG,h1,h3],h2 y,h4⟩
  obtain⟨y,h3,h4⟩:=uL (c:=a) (by omega);exact⟨y,by simp only[gG,h3],h4,(mh (c:=b) (by omega)).2 y⟩
 |.block _ c,h=>uL (c:=c) h
 |.loop c,h=>uL (c:=c) h
 |.scope c,h=>uL (c:=c) h
 |.rangeFunc _ ps a b,_=>⟨_,rfl,rfl⟩
 |.skip,h=>by cases h
 |.label _,h=>by cases h
 |.exit _,h=>by cases h
 |.ret,h=>by cases h
 |.region _ _ _,h=>by cases h
 |.goto _,h=>by cases h
 |.refuse _,h=>by cases h
theorem Vc{T:eZ}{f:FuncId}{fn:Func}{Y:List (Nat×LA)}(h:tM (mb fn)=1):(T.own f fn Y).FC f fn:=by obtain⟨y,h1,h2⟩:=uL h;show f=f/\gG (mb fn)=some ((gG (mb fn)).getD ([],.skip,.skip))/\wP ((gG (mb fn)).getD ([],.skip,.skip)) (mb fn);rw[h1];exact⟨rfl,rfl,h2⟩
section
variable {bH:bR} (tk:yx bH)
noncomputable abbrev B45:eZ:=((((K3.oJ 69 λa c=>dS (D69 a c)).dQ 46 λa=>dS (Zp a)).H6 47 Try.f47 []).H6 68 Try.f68 afM)
include tk
theorem afg:ko bH 1 K2:=Mb (ic tk) Try.func70 rfl v70 (lp (ic tk))
theorem aff:ko bH 2 K3:=Mb (afg tk) Try.func81 rfl ahj (lp (afg tk))
theorem aci:ko bH 3 B45:=Ue (Ue (wu tk (gN (ic tk) 2) (by decide) Try.func46 rfl ahk (Mb (aff tk) Try.func69 rfl v69 (lp (aff tk)))) Try.func47 rfl) Try.func68 rfl
theorem ab7:∀n,ko bH (3+3*n) (B45.H7 45 λa t=>dS (Q0 n a t))
 |0=>abo (aci tk) λn a t p s hs hp=>by
  exfalso;unfold Q0 at hs;split at hs;.cases hs;obtain⟨-,-,-,-,h1,h2,h3,-⟩:=hp;have:=abr h1 h2;unfold lW at this;rw[List.length_map]at this;omega
  cases hs
 |n+1=>mkM (T:=G45 n) (OZ (ab7 n)) Try.func45 rfl (jq n) (T':=B45) (gN (aci tk) (3+3*n)) (Vc (by kernel_rfl))
theorem af1(tu:TX bH):ko bH 1 T15:=wu tk (UO tu (ic tk)) (by decide) Try.func42 rfl v20 (lp (UO tu (ic tk)))
variable (tr:TY bH) (ts:Zo bH)
include tr
theorem acH:ko bH 3 Q9:=wu tk (afc tk tr) (by decide) Try.func32 rfl v50 (lp (afc tk tr))
include ts
theorem ahs:ko bH 4 P1:=UN ts (wu tk (acH tk tr) (by decide) Try.func48 rfl Mx (gN (ic tk) 4))
theorem ae1:ko bH 7 ((T0.dQ 43 λa=>dS (YP a)).MQ 44 λa=>dS (Ua a)):=mkN tk (gN (ahs tk tr ts) 2) (by decide) Try.func44 rfl dL (wu tk (YQ tk) (by decide) Try.func43 rfl v42 (gN (ic tk) 7))
theorem agI:ko bH 18 G16:=mkM (T:=G45 4) (OZ (ab7 tk 4)) Try.func45 rfl (jq 4) (gN (ae1 tk tr ts) 11) (Vc (by kernel_rfl))
theorem agH:ko bH 7 G17:=UN ts (wu tk (gN (acH tk tr) 3) (by decide) Try.func48 rfl Mx (wu tk (YQ tk) (by decide) Try.func43 rfl v42 (gN (ic tk) 7)))
theorem agG:ko bH 8 G18:=wu tk (gN (aib tk ts) 6) (by decide) Try.func31 rfl v31 (wu tk (gN (acH tk tr) 4) (by decide) Try.func48 rfl Mx (wu tk (gN (YQ tk) 1) (by decide) Try.func43 rfl v42 (gN (ic tk) 8)))
variable (tu:TX bH)
include tu
theorem ah8:ko bH 19 H4:=wu tk (gN (ic tk) 18) (by decide) Try.func19 rfl ahl (wu tk (gN (agG tk tr ts) 10) (by decide) Try.func18 rfl uj (wu tk (gN (agH tk tr ts) 11) (by decide) Try.func17 rfl dU (wu tk (agI tk tr ts) (by decide) Try.func16 rfl ahm (mkO (gN (af1 tk tu) 17) Try.func15 rfl v15 (wu tk (gN (UO tu (ic tk)) 18) (by decide) Try.func42 rfl v20 (Ue (Mb (gN (Fv tk) 16) Try.func41 rfl v27 (gN (YQ tk) 13)) Try.func14 rfl))))))
end
end Go.Tv
