import Derived.Test.YtedcgbkilmlbhaaPk13
set_option maxRecDepth 100000
namespace Go.Tv
open Go Go.Di Go.Proofs
theorem yM{α:Type}{l:List α}{i:Nat}(d:α)(h:i<l.length):l.take (i+1)=l.take i++[l.getD i d]:=by rw[List.take_succ_eq_append_getElem h,aP,bP h];rfl
abbrev dP:aU.den:=([],[],0,[],())
def kP(p:aU.den):Prop:=Ok p.1 p.2.1 p.2.2.1 p.2.2.2.1
theorem fF{α:Type}{P:α->Prop}{l:List α}{i:Nat}{d:α}(h:i<l.length)(hl:∀p∈l,P p):P (l.getD i d):=by rw[aP,bP h];exact hl _ (sU _)
abbrev aG:Type:=Int×Int×Int×Unit
def bS(p q:PD):List aG:=aD p.1 p.2.1 p.2.2.2.1 q.1 q.2.1 q.2.2.2.1 (p.2.2.1+q.2.2.1)
def fZ(te:List TV)(i:Nat)(k:Nat->LA):LA:=
 match te.getD i .unk with
 |.val (.int .i64 n)=>k n.toNat
 |_=>.un 0
def aV(p:PD):fB.den:=(p.1,p.2.1,p.2.2.1,p.2.2.2.1,p.1,p.2.1,p.2.1.reverse,p.1.reverse,p.1.reverse,p.2.1.reverse,p.2.1,p.1,())
def T9:List TV->Dn
 |[.sl (.pair (.sl (.int .i64)) (.pair (.sl (.int .i64)) (.pair (.int .i64) (.pair (.sl (.int .i64)) .unit)))) l .no]=>some ([l.length<=1000,∀p∈l,gv p],.res (.sl fB (l.map aV) .no) [] [],
  [(4,.dep λte tS=>.ex Nat λi=>.st {sl:=[(3,.sl fB ((l.take i).map aV) (.je tS.length)),(8,bp i)],own:=[(70,12)],cO:=[i<=l.length],m:=l.length-i})])
 |_=>none
def Q9:eZ:=U2.dQ 32 λa=>dS (D50 a)
def Mx.q1 (p0:List (aU).den)(p1:Int)(p2 p3:Nat):Prop:=p1=(↑p2:Int)/\p2<=p0.length/\(p0.length-p2)<p3
theorem Mx:VI Q9 Try.f48 [some (.sl fB)] T9:=by
 refine gT λa=>?_;unfold T9;split
 rotate_left
 .trivial
 rename_i l;intro hp;refine pE (A:=(∃(a:Nat),[]=List.map aV (List.take a l)/\Mx.q1 l (0:Int) a 1000000)/\∀(a:Nat),a<=l.length->aS (decide ((↑a:Int)<(↑l.length:Int))) ((0<=(↑a:Int)/\(↑a:Int)<(↑l.length:Int))/\List.length (l.getD a ([],[],0,[],())).1<=1000/\List.length (l.getD a ([],[],0,[],())).2.1<=1000/\(List.map aV (List.take a l)).length+1<=1000000000/\dw ((↑a:Int)+1)/\∃(x:Nat),mU fB.den/\List.map aV (List.take a l)++[((l.getD a ([],[],0,[],())).1,(l.getD a ([],[],0,[],())).2.1,(l.getD a ([],[],0,[],())).2.2.1,(l.getD a ([],[],0,[],())).2.2.2.1,(l.getD a ([],[],0,[],())).1,(l.getD a ([],[],0,[],())).2.1,List.reverse (l.getD a ([],[],0,[],())).2.1,List.reverse (l.getD a ([],[],0,[],())).1,List.reverse (l.getD a ([],[],0,[],())).1,List.reverse (l.getD a ([],[],0,[],())).2.1,(l.getD a ([],[],0,[],())).2.1,(l.getD a ([],[],0,[],())).1,())]=List.map aV (List.take x l)/\l=l/\(↑l.length:Int)=(↑l.length:Int)/\Mx.q1 l ((↑a:Int)+1) x (l.length-a)) (List.map aV (List.take a l)=List.map aV l/\True)) (by kernel_rfl) ?_;unfold Mx.q1;obtain⟨h1,h2,-⟩:=hp;change List PD at l;refine⟨⟨0,rfl,rfl,by omega,by first|omega|(dsimp only;omega)⟩,λi hi=>ek.2 ⟨λhl=>?_,λhl=>⟨by rw[List.take_of_length_le (by omega)],trivial⟩⟩⟩;have sp:gv (l.getD i dP):=fF (by omega) h2;refine⟨⟨by omega,by omega⟩,sp.1,sp.2.1,by rw[List.length_map,List.length_take];omega,⟨by omega,by omega⟩,i+1,iz▸trivial,?_,rfl,rfl,by omega,by omega,by first|omega|(dsimp only;omega)⟩;rw[yM dP (by omega),dY];rfl
def rD:Nat->(Nat->List Int)->(Nat->Ap)->List TV
 |0,_,_=>[]
 |n+1,f,a=>.sl cS (f 0) (a 0)::rD n (λj=>f (j+1)) λj=>a (j+1)
abbrev oq(n:Nat)(f:Nat->List Int)(g:Nat):List TV:=rD n f λj=>.je (g+j)
abbrev bZ(n:Nat)(f:Nat->List Int):List TV:=rD n f λ_=>.no
theorem IE:∀{n j:Nat}{f:Nat->List Int}{a:Nat->Ap},j<n->(rD n f a)[j]? =some (.sl cS (f j) (a j))
 |n+1,0,f,a,_=>rfl
 |n+1,j+1,f,a,h=>by show(rD n (λj=>f (j+1)) λj=>a (j+1))[j]? =_;exact IE (f:=λj=>f (j+1)) (a:=λj=>a (j+1)) (by omega)
theorem O4:∀{n:Nat}{f:Nat->List Int}{a:Nat->Ap},(rD n f a).length=n
 |0,_,_=>rfl
 |n+1,f,a=>by show(rD n (λj=>f (j+1)) λj=>a (j+1)).length+1=_;rw[O4]
theorem Qj{g:Nat}:∀{l:List TV},(kB g l).length=l.length
 |[]=>rfl
 |a::l=>by rw[kB,dN,dN,Qj]
theorem Qi{g g':Nat}(h:g<g'):∀{n:Nat}{f:Nat->List Int},kB g (oq n f g')=oq n f g'
 |0,_=>rfl
 |n+1,f=>by show tT g (.sl cS (f 0) (.je (g'+0)))::kB g (rD n (λj=>f (j+1)) λj=>.je (g'+(j+1)))=.sl cS (f 0) (.je (g'+0))::rD n (λj=>f (j+1)) λj=>.je (g'+(j+1));rw[tT,if_neg (by omega)];have:=Qi (g:=g) (g':=g'+1) (by omega) (n:=n) (f:=λj=>f (j+1));simp only[oq,eE,nF 1]at this;rw[this]
termination_by n=>n
def Qv(f:Nat->List Int)(j:Nat)(x:List Int):Nat->List Int:=λi=>if i=j then x else f i
theorem O3{x:List Int}:∀{n j g:Nat}{f:Nat->List Int},j<n->(kB (g+j) (oq n f g)).set j (.sl cS x (.je (g+j)))=oq n (Qv f j x) g
 |n+1,0,g,f,_=>by show .sl cS x (.je (g+0))::kB (g+0) (rD n (λj=>f (j+1)) λj=>.je (g+(j+1)))=.sl cS (Qv f 0 x 0) (.je (g+0))::rD n (λj=>Qv f 0 x (j+1)) λj=>.je (g+(j+1));have:=Qi (g:=g) (g':=g+1) (by omega) (n:=n) (f:=λj=>f (j+1));simp only[oq,eE,nF 1]at this;rw[Nat.add_zero,this];simp only[Qv,if_true,Nat.add_one_ne_zero,if_false]
 |n+1,j+1,g,f,h=>by have ih:=O3 (x:=x) (n:=n) (j:=j) (g:=g+1) (f:=λj=>f (j+1)) (by omega);simp only[oq,eE,nF 1]at ih;show tT (g+(j+1)) (.sl cS (f 0) (.je (g+0)))::(kB (g+(j+1)) (rD n (λj=>f (j+1)) λj=>.je (g+(j+1)))).set j (.sl cS x (.je (g+(j+1))))=.sl cS (Qv f (j+1) x 0) (.je (g+0))::rD n (λi=>Qv f (j+1) x (i+1)) λj=>.je (g+(j+1));rw[tT,if_neg (by omega),ih];have e:Qv f (j+1) x 0=f 0:=if_neg (by omega);rw[e];congr 1;congr 1;funext i;simp only[Qv,Nat.add_right_cancel_iff]
theorem Kv{g:Nat}:∀{n:Nat},kF (oq n (λ_=>[]) g) (List.replicate n .ax)
 |0=>.nil
 |n+1=>by have ih:=Kv (n:=n) (g:=g+1);simp only[oq,eE,nF 1]at ih;exact .ax ih
theorem K4:∀{n:Nat}{f:Nat->List Int}{a:Nat->Ap},(∀j b,a j≠.stop b)->bL [] (rD n f a)=bZ n f
 |0,_,_,_=>rfl
 |n+1,f,a,h=>by
  show ki none (.sl cS (f 0) (a 0))::bL [] (rD n (λj=>f (j+1)) λj=>a (j+1))=.sl cS (f 0) .no::bZ n λj=>f (j+1);rw[K4 λj b=>h (j+1) b];cases e:a 0 with
  |stop b=>exact(h 0 b e).elim
  |_=>rfl
def xd(i o k u:Nat):Nat:=u+(k*4+(o*16+i*64))
def MP(i k:Nat)(f:Nat->List Int)(s:aG):Nat->List Int:=Qv f (xd i s.1.toNat k s.2.1.toNat) (f (xd i s.1.toNat k s.2.1.toNat)++[s.2.2.1])
def Ol(l:List PD)(f:Nat->List Int)(i k n:Nat):Nat->List Int:=((bS (l.getD i dP) (l.getD k dP)).take n).foldl (MP i k) f
def C5(l:List PD)(f:Nat->List Int)(i k:Nat):Nat->List Int:=(List.range k).foldl (λf k=>if i=k then f else Ol l f i k (bS (l.getD i dP) (l.getD k dP)).length) f
def Cg(l:List PD)(i:Nat):Nat->List Int:=(List.range i).foldl (λf i=>C5 l f i l.length) λ_=>[]
section
variable {l:List PD} {f:Nat->List Int} {i k n j:Nat}
theorem Ii{p:aU.den}(h:kP p):gv p:=abu h
theorem AQ{p q:PD}(h1:kP p)(h2:kP q):(bS p q).length<=272:=DW h1 h2
theorem AP{p q:PD}(h1:kP p)(h2:kP q){s:aG}(h:s∈bS p q):(0<=s.1/\s.1<=3)/\0<=s.2.1/\s.2.1<=3:=by simp only[bS,aD,qH,dM]at h;obtain⟨a,ha,b,hb,s,-,rfl⟩:=h;exact⟨h1.Mc a ha,h2.Mc b hb⟩
theorem Xl(d:aG)(h:n<(bS (l.getD i dP) (l.getD k dP)).length):Ol l f i k (n+1)=MP i k (Ol l f i k n) ((bS (l.getD i dP) (l.getD k dP)).getD n d):=by rw[Ol,Ol,yM d h,jY];rfl
theorem Na(h:i≠k):C5 l f i (k+1)=Ol l (C5 l f i k) i k (bS (l.getD i dP) (l.getD k dP)).length:=by rw[C5,C5,eR,jY,gp,List.foldl_nil,if_neg h]
theorem I4(h:i=k):C5 l f i (k+1)=C5 l f i k:=by rw[C5,C5,eR,jY,gp,List.foldl_nil,if_pos h]
theorem Ee:Cg l (i+1)=C5 l (Cg l i) i l.length:=by rw[Cg,Cg,eR,jY];rfl
theorem ZG{x:List Int}{m:Nat}(h:∀j,(f j).length<=m)(hx:x.length<=m+1)(j':Nat):(Qv f j x j').length<=m+1:=by
 unfold Qv;split
 .exact hx
 have:=h j';omega
theorem Li:∀(ss:List aG){f:Nat->List Int}{m:Nat},(∀j,(f j).length<=m)->∀j,(ss.foldl (MP i k) f j).length<=m+ss.length
 |[],f,m,h,j=>by simpa using h j
 |s::ss,f,m,h,j=>by have:=Li ss (f:=MP i k f s) (m:=m+1) (λj=>ZG h (by simp;have:=h (xd i s.1.toNat k s.2.1.toNat);omega) j) j;simp only[gp,dN];omega
theorem PM{m:Nat}(h:∀j,(f j).length<=m)(j:Nat):(Ol l f i k n j).length<=m+n:=by have:=Li (i:=i) (k:=k) ((bS (l.getD i dP) (l.getD k dP)).take n) h j;rw[List.length_take]at this;unfold Ol;omega
theorem I5{m:Nat}(hl:∀p∈l,kP p)(hi:i<l.length)(h:∀j,(f j).length<=m):∀(k:Nat),k<=l.length->∀j,(C5 l f i k j).length<=m+k*272
 |0,_,j=>by simpa [C5]using h j
 |k+1,hk,j=>by
  have ih:=I5 hl hi h k (by omega);have sl:=AQ (fF (d:=dP) hi hl) (fF (d:=dP) (show k<l.length by omega) hl);by_cases e:i=k;· rw[I4 e];have:=ih j;omega
  rw[Na e];have:=PM (l:=l) (i:=i) (k:=k) (n:=(bS (l.getD i dP) (l.getD k dP)).length) ih j;omega
theorem PR(hl:∀p∈l,kP p)(h4:l.length<=4):∀(i:Nat),i<=l.length->∀j,(Cg l i j).length<=i*1088
 |0,_,j=>by simp[Cg]
 |i+1,hi,j=>by have ih:=PR hl h4 i (by omega);rw[Ee];have:=I5 hl (show i<l.length by omega) ih l.length (ak _) j;have:l.length*272<=4*272:=fU _ h4;omega
theorem Ub{d:fB.den}(h:k<l.length):(l.map aV).getD k d=aV (l.getD k dP):=by rw[aP,cM,bP h,aP,bP h];rfl
theorem Ql{c:TV}{a:Nat->Ap}{off:Nat}(ho:off=j+1)(hj:j<256):(c::rD 256 f a)[off]? =some (.sl cS (f j) (a j)):=by subst ho;rw[List.getElem?_cons_succ];exact IE hj
theorem WR{x:List Int}{g:Nat}(hg:g=1+j)(hj:j<256):kF (oq 256 (Qv f j x) 1) (YY (kB g (oq 256 f 1)) j (.sl cS x (.je g))):=by subst hg;unfold YY;rw[O3 hj];exact kF.refl _
end
abbrev Uj(l:List PD):TV:=.sl fB (l.map aV) (.stop true)
def Ua:List TV->Dn
 |[.sl (.pair (.sl (.int .i64)) (.pair (.sl (.int .i64)) (.pair (.int .i64) (.pair (.sl (.int .i64)) .unit)))) l .no]=>some ([l.length<=4,∀p∈l,kP p],.ex (Nat->List Int) λf=>.res .unk (.sl fB (l.map aV) (.stop false)::bZ 256 f) [f=Cg l l.length],
  [(4,.dep λ_ tS=>.ex Nat λi=>.ex (Nat->List Int) λf=>.st {sl:=[(19,bp i)],pl:=[(0,Uj l::oq 256 f tS.length)],own:=List.replicate 256 (3,1),cO:=[i<=l.length,f=Cg l i],m:=l.length-i}),
   (10,.dep λte _=>fZ te 4 λi=>.ex Nat λk=>.ex (Nat->List Int) λf=>.st {sl:=[(29,bp k)],pl:=[(0,Uj l::oq 256 f 1)],cO:=[k<=l.length,f=C5 l (Cg l i) i k],m:=l.length-k}),
   (17,.dep λte _=>fZ te 4 λi=>fZ te 6 λk=>.ex (List aG) λs=>.st {sl:=[(39,.sl cz s .no),(40,bp s.length),(41,bp 0)],cO:=[s=bS (l.getD i dP) (l.getD k dP)]}),
   (18,.dep λte _=>fZ te 4 λi=>fZ te 6 λk=>.ex Nat λn=>.ex (Nat->List Int) λf=>.st {sl:=[(41,bp n)],pl:=[(0,Uj l::oq 256 f 1)],cO:=[n<=(bS (l.getD i dP) (l.getD k dP)).length,f=Ol l (C5 l (Cg l i) i k) i k n],m:=(bS (l.getD i dP) (l.getD k dP)).length-n})])
 |_=>none
noncomputable def P1:eZ:=(T0.dQ 48 λa=>dS (T9 a)).dQ 33 S60
def dL.q1 (p0:bq.den)(p1:Prop):Prop:=p0=p0/\p1
def dL.q2 (p0:List (aU).den)(p1:Nat)(p2:Prop):Prop:=dL.q1 ((List.map aV p0).getD p1 ([],[],0,[],[],[],[],[],[],[],[],[],())).1 (dL.q1 ((List.map aV p0).getD p1 ([],[],0,[],[],[],[],[],[],[],[],[],())).2.1 (((List.map aV p0).getD p1 ([],[],0,[],[],[],[],[],[],[],[],[],())).2.2.1=((List.map aV p0).getD p1 ([],[],0,[],[],[],[],[],[],[],[],[],())).2.2.1/\dL.q1 ((List.map aV p0).getD p1 ([],[],0,[],[],[],[],[],[],[],[],[],())).2.2.2.1 (dL.q1 ((List.map aV p0).getD p1 ([],[],0,[],[],[],[],[],[],[],[],[],())).2.2.2.2.1 (dL.q1 ((List.map aV p0).getD p1 ([],[],0,[],[],[],[],[],[],[],[],[],())).2.2.2.2.2.1 (dL.q1 ((List.map aV p0).getD p1 ([],[],0,[],[],[],[],[],[],[],[],[],())).2.2.2.2.2.2.1 (dL.q1 ((List.map aV p0).getD p1 ([],[],0,[],[],[],[],[],[],[],[],[],())).2.2.2.2.2.2.2.1 (dL.q1 ((List.map aV p0).getD p1 ([],[],0,[],[],[],[],[],[],[],[],[],())).2.2.2.2.2.2.2.2.1 (dL.q1 ((List.map aV p0).getD p1 ([],[],0,[],[],[],[],[],[],[],[],[],())).2.2.2.2.2.2.2.2.2.1 (dL.q1 ((List.map aV p0).getD p1 ([],[],0,[],[],[],[],[],[],[],[],[],())).2.2.2.2.2.2.2.2.2.2.1 (dL.q1 ((List.map aV p0).getD p1 ([],[],0,[],[],[],[],[],[],[],[],[],())).2.2.2.2.2.2.2.2.2.2.2.1 p2))))))))))
def dL.q3 (p0:List (aU).den)(p1:Nat)(p2:Prop):Prop:=((List.map aV p0).getD p1 ([],[],0,[],[],[],[],[],[],[],[],[],())).2.2.2.2.1=((List.map aV p0).getD p1 ([],[],0,[],[],[],[],[],[],[],[],[],())).1/\((List.map aV p0).getD p1 ([],[],0,[],[],[],[],[],[],[],[],[],())).2.2.2.2.2.1=((List.map aV p0).getD p1 ([],[],0,[],[],[],[],[],[],[],[],[],())).2.1/\((List.map aV p0).getD p1 ([],[],0,[],[],[],[],[],[],[],[],[],())).2.2.2.2.2.2.1=List.reverse ((List.map aV p0).getD p1 ([],[],0,[],[],[],[],[],[],[],[],[],())).2.1/\((List.map aV p0).getD p1 ([],[],0,[],[],[],[],[],[],[],[],[],())).2.2.2.2.2.2.2.1=List.reverse ((List.map aV p0).getD p1 ([],[],0,[],[],[],[],[],[],[],[],[],())).1/\((List.map aV p0).getD p1 ([],[],0,[],[],[],[],[],[],[],[],[],())).2.2.2.2.2.2.2.2.1=List.reverse ((List.map aV p0).getD p1 ([],[],0,[],[],[],[],[],[],[],[],[],())).1/\((List.map aV p0).getD p1 ([],[],0,[],[],[],[],[],[],[],[],[],())).2.2.2.2.2.2.2.2.2.1=List.reverse ((List.map aV p0).getD p1 ([],[],0,[],[],[],[],[],[],[],[],[],())).2.1/\((List.map aV p0).getD p1 ([],[],0,[],[],[],[],[],[],[],[],[],())).2.2.2.2.2.2.2.2.2.2.1=((List.map aV p0).getD p1 ([],[],0,[],[],[],[],[],[],[],[],[],())).2.1/\((List.map aV p0).getD p1 ([],[],0,[],[],[],[],[],[],[],[],[],())).2.2.2.2.2.2.2.2.2.2.2.1=((List.map aV p0).getD p1 ([],[],0,[],[],[],[],[],[],[],[],[],())).1/\p2
def dL.q4 (p0:List (aU).den)(p1 p2:Nat)(p3 p4:Nat->List Int)(p5:Nat)(p6:List (Nat×Nat))(p7:Nat):Prop:=p1<=p2/\p3=p4/\(p2-p1)<p7
def dL.q5 (p0:List (aU).den)(p1:Nat)(p2:Prop):Prop:=List.map aV p0=List.map aV p0/\(↑(List.map aV p0).length:Int)=(↑(List.map aV p0).length:Int)/\(↑p1:Int)=(↑p1:Int)/\true=true/\(↑p1:Int)=(↑p1:Int)/\List.map aV p0=List.map aV p0/\p1=p1/\0=0/\p2
def dL.q6 (p0 p1:Nat)(p2:List (aU).den)(p3 p4:Nat->List Int):Prop:=dw ((↑p0:Int)+1)/\∃(a:Nat),∃(x:Nat->List Int),Value.pointer none=Value.pointer none/\(↑p1:Int)=(↑p1:Int)/\dL.q5 p2 p1 (dL.q2 p2 p1 (List.map aV p2=List.map aV p2/\(↑(List.map aV p2).length:Int)=(↑(List.map aV p2).length:Int)/\(↑p0:Int)+1=(↑a:Int)/\List.map aV p2=List.map aV p2/\kF (oq 256 x 1) (oq 256 p4 1)/\dL.q2 p2 p1 (dL.q4 p2 a p2.length x (C5 p2 (Cg p2 p1) p1 a) 29 [] (p2.length-p0))))
def dL.q7 (p0:List (aU).den)(p1:Nat):Prop:=Ok ((List.map aV p0).getD p1 ([],[],0,[],[],[],[],[],[],[],[],[],())).1 ((List.map aV p0).getD p1 ([],[],0,[],[],[],[],[],[],[],[],[],())).2.1 ((List.map aV p0).getD p1 ([],[],0,[],[],[],[],[],[],[],[],[],())).2.2.1 ((List.map aV p0).getD p1 ([],[],0,[],[],[],[],[],[],[],[],[],())).2.2.2.1
def dL.q8 (p0:Nat)(p1:cS.den)(p2:Prop):Prop:=(0<=(↑p0:Int)/\(↑p0:Int)<4)/\(0<=p1/\p1<4)/\p2
def dL.q9 (p0:List (aU).den)(p1:Nat->List Int)(p2:List TV)(p3:Prop):Prop:=List.map aV p0=List.map aV p0/\kF (oq 256 p1 1) p2/\p3
theorem dL:VN P1 Try.f44 [] Ua:=by
 refine abm λa=>?_;unfold Ua;split
 rotate_left
 .trivial
 rename_i l;intro hp;refine pE (A:=l.length<=1000/\(∀(p:(aU).den),p∈l->gv p)/\(∃(a:Nat),∃(r:Nat->List Int),0=(↑a:Int)/\dL.q9 l r [TV.ax,TV.ax,TV.ax,TV.ax,TV.ax,TV.ax,TV.ax,TV.ax,TV.ax,TV.ax,TV.ax,TV.ax,TV.ax,TV.ax,TV.ax,TV.ax,TV.ax,TV.ax,TV.ax,TV.ax,TV.ax,TV.ax,TV.ax,TV.ax,TV.ax,TV.ax,TV.ax,TV.ax,TV.ax,TV.ax,TV.ax,TV.ax,TV.ax,TV.ax,TV.ax,TV.ax,TV.ax,TV.ax,TV.ax,TV.ax,TV.ax,TV.ax,TV.ax,TV.ax,TV.ax,TV.ax,TV.ax,TV.ax,TV.ax,TV.ax,TV.ax,TV.ax,TV.ax,TV.ax,TV.ax,TV.ax,TV.ax,TV.ax,TV.ax,TV.ax,TV.ax,TV.ax,TV.ax,TV.ax,TV.ax,TV.ax,TV.ax,TV.ax,TV.ax,TV.ax,TV.ax,TV.ax,TV.ax,TV.ax,TV.ax,TV.ax,TV.ax,TV.ax,TV.ax,TV.ax,TV.ax,TV.ax,TV.ax,TV.ax,TV.ax,TV.ax,TV.ax,TV.ax,TV.ax,TV.ax,TV.ax,TV.ax,TV.ax,TV.ax,TV.ax,TV.ax,TV.ax,TV.ax,TV.ax,TV.ax,TV.ax,TV.ax,TV.ax,TV.ax,TV.ax,TV.ax,TV.ax,TV.ax,TV.ax,TV.ax,TV.ax,TV.ax,TV.ax,TV.ax,TV.ax,TV.ax,TV.ax,TV.ax,TV.ax,TV.ax,TV.ax,TV.ax,TV.ax,TV.ax,TV.ax,TV.ax,TV.ax,TV.ax,TV.ax,TV.ax,TV.ax,TV.ax,TV.ax,TV.ax,TV.ax,TV.ax,TV.ax,TV.ax,TV.ax,TV.ax,TV.ax,TV.ax,TV.ax,TV.ax,TV.ax,TV.ax,TV.ax,TV.ax,TV.ax,TV.ax,TV.ax,TV.ax,TV.ax,TV.ax,TV.ax,TV.ax,TV.ax,TV.ax,TV.ax,TV.ax,TV.ax,TV.ax,TV.ax,TV.ax,TV.ax,TV.ax,TV.ax,TV.ax,TV.ax,TV.ax,TV.ax,TV.ax,TV.ax,TV.ax,TV.ax,TV.ax,TV.ax,TV.ax,TV.ax,TV.ax,TV.ax,TV.ax,TV.ax,TV.ax,TV.ax,TV.ax,TV.ax,TV.ax,TV.ax,TV.ax,TV.ax,TV.ax,TV.ax,TV.ax,TV.ax,TV.ax,TV.ax,TV.ax,TV.ax,TV.ax,TV.ax,TV.ax,TV.ax,TV.ax,TV.ax,TV.ax,TV.ax,TV.ax,TV.ax,TV.ax,TV.ax,TV.ax,TV.ax,TV.ax,TV.ax,TV.ax,TV.ax,TV.ax,TV.ax,TV.ax,TV.ax,TV.ax,TV.ax,TV.ax,TV.ax,TV.ax,TV.ax,TV.ax,TV.ax,TV.ax,TV.ax,TV.ax,TV.ax,TV.ax,TV.ax,TV.ax,TV.ax,TV.ax,TV.ax,TV.ax,TV.ax,TV.ax,TV.ax,TV.ax,TV.ax,TV.ax,TV.ax,TV.ax,TV.ax,TV.ax,TV.ax,TV.ax,TV.ax,TV.ax,TV.ax,TV.ax] (dL.q4 l a l.length r (Cg l a) 19 (List.replicate 256 (3,1)) 1000000))/\∀(a:Nat)(r:Nat->List Int),a<=l.length->r=Cg l a->aS (decide ((↑a:Int)<(↑(List.map aV l).length:Int))) ((0<=(↑a:Int)/\(↑a:Int)<(↑(List.map aV l).length:Int))/\(∃(y:Nat),∃(v:Nat->List Int),0=(↑y:Int)/\dL.q9 l v (oq 256 r 1) (dL.q4 l y l.length v (C5 l (Cg l a) a y) 29 [] 1000000))/\∀(y:Nat)(v:Nat->List Int),y<=l.length->v=C5 l (Cg l a) a y->aS (decide ((↑y:Int)<(↑(List.map aV l).length:Int))) ((0<=(↑y:Int)/\(↑y:Int)<(↑(List.map aV l).length:Int))/\aS ((↑a:Int)==(↑y:Int)) (dL.q6 y a l v v) ((dL.q7 l a/\dL.q7 l y/\dL.q3 l a (dL.q3 l y (∃(z:List aG),Value.pointer none=Value.pointer none/\(↑a:Int)=(↑a:Int)/\(↑y:Int)=(↑y:Int)/\dL.q5 l a (dL.q2 l a (dL.q5 l y (dL.q2 l y ((↑a:Int)=(↑a:Int)/\(↑y:Int)=(↑y:Int)/\false=false/\aD ((List.map aV l).getD a ([],[],0,[],[],[],[],[],[],[],[],[],())).1 ((List.map aV l).getD a ([],[],0,[],[],[],[],[],[],[],[],[],())).2.1 ((List.map aV l).getD a ([],[],0,[],[],[],[],[],[],[],[],[],())).2.2.2.1 ((List.map aV l).getD y ([],[],0,[],[],[],[],[],[],[],[],[],())).1 ((List.map aV l).getD y ([],[],0,[],[],[],[],[],[],[],[],[],())).2.1 ((List.map aV l).getD y ([],[],0,[],[],[],[],[],[],[],[],[],())).2.2.2.1 (((List.map aV l).getD a ([],[],0,[],[],[],[],[],[],[],[],[],())).2.2.1+((List.map aV l).getD y ([],[],0,[],[],[],[],[],[],[],[],[],())).2.2.1)=z/\(↑(aD ((List.map aV l).getD a ([],[],0,[],[],[],[],[],[],[],[],[],())).1 ((List.map aV l).getD a ([],[],0,[],[],[],[],[],[],[],[],[],())).2.1 ((List.map aV l).getD a ([],[],0,[],[],[],[],[],[],[],[],[],())).2.2.2.1 ((List.map aV l).getD y ([],[],0,[],[],[],[],[],[],[],[],[],())).1 ((List.map aV l).getD y ([],[],0,[],[],[],[],[],[],[],[],[],())).2.1 ((List.map aV l).getD y ([],[],0,[],[],[],[],[],[],[],[],[],())).2.2.2.1 (((List.map aV l).getD a ([],[],0,[],[],[],[],[],[],[],[],[],())).2.2.1+((List.map aV l).getD y ([],[],0,[],[],[],[],[],[],[],[],[],())).2.2.1)).length:Int)=(↑z.length:Int)/\(0:Int)=0/\dL.q9 l v (oq 256 v 1) (dL.q2 l a (dL.q2 l y (z=bS (l.getD a dP) (l.getD y dP)/\True))))))))))/\∀(z:List aG),z=bS (l.getD a dP) (l.getD y dP)->(∃(u:Nat),∃(w:Nat->List Int),0=(↑u:Int)/\dL.q9 l w (oq 256 v 1) (dL.q4 l u (bS (l.getD a dP) (l.getD y dP)).length w (Ol l (C5 l (Cg l a) a y) a y u) 41 [] 1000000))/\∀(u:Nat)(w:Nat->List Int),u<=(bS (l.getD a dP) (l.getD y dP)).length->w=Ol l (C5 l (Cg l a) a y) a y u->aS (decide ((↑u:Int)<(↑z.length:Int))) ((0<=(↑u:Int)/\(↑u:Int)<(↑z.length:Int))/\dL.q8 a (z.getD u (0,0,0,())).1 (dL.q8 y (z.getD u (0,0,0,())).2.1 (∃(te:List cS.den),∃(QI:Nat),(TV.sl fB (List.map aV l) (Ap.stop true)::oq 256 w 1)[Int.toNat (z.getD u (0,0,0,())).2.1*1+(y*4+(Int.toNat (z.getD u (0,0,0,())).1*16+(a*64+1)))]? =some (TV.sl cS te (Ap.je QI))/\(1<=QI/\QI<257)/\te.length+1<=1000000000/\dL.q8 a (z.getD u (0,0,0,())).1 (dL.q8 y (z.getD u (0,0,0,())).2.1 (∃(x:Nat),Int.toNat (z.getD u (0,0,0,())).2.1*1+(y*4+(Int.toNat (z.getD u (0,0,0,())).1*16+(a*64+1)))=x+1/\x<(kB QI (oq 256 w 1)).length/\dw ((↑u:Int)+1)/\∃(s:Nat),∃(t:Nat->List Int),Value.pointer none=Value.pointer none/\(↑a:Int)=(↑a:Int)/\(↑y:Int)=(↑y:Int)/\dL.q5 l a (dL.q2 l a (dL.q5 l y (dL.q2 l y ((↑a:Int)=(↑a:Int)/\(↑y:Int)=(↑y:Int)/\false=false/\z=z/\(↑z.length:Int)=(↑z.length:Int)/\(↑u:Int)+1=(↑s:Int)/\dL.q9 l t (YY (kB QI (oq 256 w 1)) x (TV.sl cS (te++[(z.getD u (0,0,0,())).2.2.1]) (Ap.je QI))) (dL.q2 l a (dL.q2 l y (dL.q4 l s (bS (l.getD a dP) (l.getD y dP)).length t (Ol l (C5 l (Cg l a) a y) a y s) 41 [] ((bS (l.getD a dP) (l.getD y dP)).length-u))))))))))))) (dL.q6 y a l v w))) (dw ((↑a:Int)+1)/\∃(z:Nat),∃(u:Nat->List Int),Value.pointer none=Value.pointer none/\List.map aV l=List.map aV l/\(↑(List.map aV l).length:Int)=(↑(List.map aV l).length:Int)/\(↑a:Int)+1=(↑z:Int)/\dL.q9 l u (oq 256 v 1) (dL.q4 l z l.length u (Cg l z) 19 (List.replicate 256 (3,1)) (l.length-a)))) (∃(a:Nat->List Int),List.map aV l=List.map aV l/\bL [] (oq 256 r 1)=bZ 256 a/\a=Cg l l.length/\True)) (by kernel_rfl) ?_;unfold dL.q9 dL.q8 dL.q7 dL.q6 dL.q5 dL.q4 dL.q3 dL.q2 dL.q1;obtain⟨h1,h2,-⟩:=hp;change List PD at l;have sh:∀p∈l,gv p:=λp hp=>Ii (h2 p hp);simp only[ek,fe,eq_self,true_and,and_true,iz,dw,List.length_map];refine⟨by omega,sh,⟨0,λ_=>[],by omega,Kv (n:=256) (g:=1),by omega,rfl,by omega⟩,λi f hi hf=>⟨λFg=>⟨⟨by omega,by omega⟩,⟨0,f,by omega,kF.refl _,by omega,hf,by omega⟩,λk f1 hk Ms=>⟨λpG=>⟨⟨by omega,by omega⟩,λe=>?_,λe=>?_⟩,λpG=>?_⟩⟩,λFg=>?_⟩⟩;· exact⟨⟨by omega,by omega⟩,k+1,f1,by omega,kF.refl _,by omega,(I4 (l:=l) (by omega:i=k)).symm▸Ms,by omega⟩
 .have o1:kP (l.getD i dP):=fF (by omega) h2;have o2:kP (l.getD k dP):=fF (by omega) h2;have sl:=AQ o1 o2;simp only[Ub (l:=l) (k:=i) (by omega),Ub (l:=l) (k:=k) (by omega),aV,eq_self,true_and];refine⟨⟨o1,o2,_,rfl,rfl,kF.refl _,rfl⟩,λs hs=>?_⟩;subst hs;refine⟨⟨0,f1,by omega,kF.refl _,by omega,Ms,by omega⟩,λn f2 hn Tk=>⟨λCi=>?_,λCi=>?_⟩⟩
  .have Ci:n<(bS (l.getD i dP) (l.getD k dP)).length:=mq.1 Ci;have hm:(bS (l.getD i dP) (l.getD k dP)).getD n (0,0,0,())∈bS (l.getD i dP) (l.getD k dP):=fF Ci λ_ h=>h;have st:=Xl (l:=l) (f:=C5 l (Cg l i) i k) (i:=i) (k:=k) (0,0,0,()) Ci;have li:=AP o1 o2 hm;have bl:=PM (l:=l) (i:=i) (k:=k) (n:=n) (I5 h2 (show i<l.length by omega) (PR h2 h1 i (by omega)) k (by omega));rw[<-Tk]at st bl
   revert st li
   generalize(bS (l.getD i dP) (l.getD k dP)).getD n (0,0,0,())=s;rintro st ⟨⟨x0,x3⟩,y0,y3⟩;have hj:xd i s.1.toNat k s.2.1.toNat<256:=by unfold xd;omega
   have ho:s.2.1.toNat*1+(k*4+(s.1.toNat*16+(i*64+1)))=xd i s.1.toNat k s.2.1.toNat+1:=by unfold xd;omega
   have b1:=bl (xd i s.1.toNat k s.2.1.toNat);refine⟨⟨by omega,mq.2 Ci⟩,⟨by omega,by omega⟩,⟨x0,ze x3⟩,⟨by omega,by omega⟩,⟨y0,ze y3⟩,f2 (xd i s.1.toNat k s.2.1.toNat),1+xd i s.1.toNat k s.2.1.toNat,Ql ho hj,⟨by omega,by omega⟩,by omega,⟨by omega,by omega⟩,⟨x0,ze x3⟩,⟨by omega,by omega⟩,⟨y0,ze y3⟩,xd i s.1.toNat k s.2.1.toNat,ho,?_,⟨by omega,by omega⟩,n+1,_,by omega,WR rfl hj,by omega,st.symm,by omega⟩;rw[Qj,O4];exact hj
  have Ci:¬n<(bS (l.getD i dP) (l.getD k dP)).length:=λh=>Ci (mq.2 h);refine⟨⟨by omega,by omega⟩,k+1,f2,by omega,kF.refl _,by omega,?_,by omega⟩;rw[Na (by omega:i≠k),<-show n=(bS (l.getD i dP) (l.getD k dP)).length by omega];exact Tk
 .refine⟨⟨by omega,by omega⟩,i+1,f1,by omega,kF.refl _,by omega,?_,by omega⟩;rw[Ee,<-show k=l.length by omega];exact Ms
 exact⟨f,K4 (a:=λj=>.je (1+j)) (λj b e=>nomatch e),by rw[hf,show i=l.length by omega]⟩
end Go.Tv
namespace Go.Tv
open Go Go.Di Go.Proofs
def kG(st:List aG)(x:Int):Bool:=st.any λe=>e.1==x
abbrev nV:aG:=(0,0,0,())
section
variable {l:List PD} {F:Nat->List Int} {st:List aG} {i y:Nat}
theorem Xz(h:y<st.length){x:Int}(hx:kG (st.take y) x=false)(hne:¬(st.getD y nV).1=x):kG (st.take (y+1)) x=false:=by rw[yM nV h];unfold kG at hx⊢;rw[List.any_append,hx];simpa using hne
theorem aeJ(h:y<st.length){x:Int}(he:(st.getD y nV).1=x):kG st x=true:=by unfold kG;rw[List.any_eq_true];exact⟨_,fF (P:=λe=>e∈st) (d:=nV) h λ_ h=>h,by simpa using he⟩
end
def D70:List TV->List TV->Dn
 |[.agg [.val (.int .i64 a),.val (.int .i64 _),.val (.int .i64 _)],.ptr 0 0],[.val (.int .i64 x)]=>some ([],.res (iD (a==x)) [bp x] [],[])
 |_,_=>none
theorem v70:VC T0 Try.f70 [some .bool] [some cS] D70:=by
 refine pM λa cs=>?_;unfold D70;split
 rotate_left
 .trivial
 rename_i a b c x;intro hp;refine pE (A:=(a==x)=(a==x)/\x=x/\True) (by kernel_rfl) ?_;exact⟨rfl,rfl,trivial⟩
def K2:eZ:=T0.oJ 70 λa c=>dS (D70 a c)
def Y3(st:List aG)(x:Int)(r:Int):Prop:=(r=-1/\kG st x=false)\/(0<=r/\kG st x=true)
def adB:List TV->List TV->Dn
 |[.sl (.pair (.int .i64) (.pair (.int .i64) (.pair (.int .i64) .unit))) l .no,.fn 70 [] [.ptr 0 0]],[.val (.int .i64 x)]=>some ([l.length<=1000],.ex Int λr=>.res (bp r) [bp x] [Y3 l x r],[(3,.ex Nat λi=>.st {sl:=[(8,bp i)],cO:=[i<=l.length,kG (l.take i) x=false],m:=l.length-i})])
 |_,_=>none
theorem ahj:VC K2 Try.f81 [some cS] [some cS] adB:=by
 refine pM λa cs=>?_;unfold adB;split
 rotate_left
 .trivial
 rename_i l x;intro hp;change List aG at l;refine pE (A:=(∃(a:Nat),0=(↑a:Int)/\a<=l.length/\kG (List.take a l) x=false/\(l.length-a)<1000000)/\∀(a:Nat),a<=l.length->kG (List.take a l) x=false->aS (decide ((↑a:Int)<(↑l.length:Int))) ((0<=(↑a:Int)/\(↑a:Int)<(↑l.length:Int))/\aS ((l.getD a (0,0,0,())).1==x) (∃(y:Int),(↑a:Int)=y/\x=x/\Y3 l x y/\True) (dw ((↑a:Int)+1)/\∃(y:Nat),l=l/\(↑l.length:Int)=(↑l.length:Int)/\(↑a:Int)+1=(↑y:Int)/\x=x/\y<=l.length/\kG (List.take y l) x=false/\(l.length-y)<(l.length-a))) (∃(a:Int),(-1:Int)=a/\x=x/\Y3 l x a/\True)) (by kernel_rfl) ?_;have h1:=hp.1;simp only[ek,fe,eq_self,true_and,and_true,dw];refine⟨⟨0,rfl,by omega,rfl,by omega⟩,λi hi hh=>⟨λhl=>⟨⟨by omega,by omega⟩,λe=>⟨_,rfl,.inr ⟨by omega,aeJ (by omega) e⟩⟩,λe=>⟨⟨by omega,by omega⟩,i+1,by omega,by omega,Xz (by omega) hh e,by omega⟩⟩,λhl=>⟨_,rfl,.inl ⟨rfl,by rw[<-List.take_of_length_le (l:=l) (i:=i) (by omega)];exact hh⟩⟩⟩⟩
def K3:eZ:=K2.oJ 81 λa c=>dS (adB a c)
def D69:List TV->List TV->Dn
 |[.sl (.pair (.int .i64) (.pair (.int .i64) (.pair (.int .i64) .unit))) l .no,.fn 70 [] [.ptr 0 0]],[.val (.int .i64 x)]=>some ([l.length<=1000],.res (iD (kG l x)) [bp x] [],[])
 |_,_=>none
theorem v69:VC K3 Try.f69 [some .bool] [some cS] D69:=by
 refine pM λa cs=>?_;unfold D69;split
 rotate_left
 .trivial
 rename_i l x;intro hp;change List aG at l;refine pE (A:=l.length<=1000/\∀(a:Int),Y3 l x a->decide (a>=0)=kG l x/\x=x/\True) (by kernel_rfl) ?_;refine⟨hp.1,λr hr=>⟨?_,rfl,trivial⟩⟩;rcases hr with ⟨rfl,h⟩|⟨h0,h⟩;· rw[h];rfl
 rw[h];simpa using h0
abbrev qL(l:List PD)(i:Nat):List Int:=(l.getD i dP).2.2.2.1
def dn(T:List TV)(j:Nat):List Int:=
 match T[j]? with
 |some (.sl (.int .i64) x _)=>x
 |_=>[]
def mL(F:Nat->List Int)(st:List aG)(i:Nat)(n:Int):List Int:=if st.length=0 then[0]else F (xd (st.getD (st.length-1) nV).1.toNat (st.getD (st.length-1) nV).2.1.toNat i n.toNat)
def TA(F:Nat->List Int)(st:List aG)(i:Nat)(n:Int):Option (aG×List Int):=if(mL F st i n).length=0 then none else some (((i:Int),n,(mL F st i n).getD 0 0,()),mL F st i n)
def CF(l:List PD)(F:Nat->List Int)(st:List aG)(i y:Nat):List (aG×List Int):=((qL l i).take y).filterMap (TA F st i)
def tw(l:List PD)(F:Nat->List Int)(st:List aG)(i:Nat):List (aG×List Int):=(List.range i).flatMap λ(i:Nat)=>if kG st (i:Int)then[]else CF l F st i (qL l i).length
def JO(g:List aG->Int)(st:List aG)(ns:List (aG×List Int)):Int:=(ns.map λp=>(p.2.length:Int)*g (st++[p.1])).sum
def wM(l:List PD)(F:Nat->List Int):Nat->List aG->Int
 |0,_=>1
 |r+1,st=>JO (wM l F r) st (tw l F st l.length)
def tD(l:List PD)(st:List aG):Prop:=∀x∈st,(0<=x.1/\x.1<(l.length:Int))/\0<=x.2.1/\x.2.1<=3
abbrev wkC(p:PD):List TV:=[.sl cS p.1 .no,.sl cS p.2.1 .no,bp p.2.2.1,.sl cS p.2.2.2.1 .no,.sl cS p.1 .no,.sl cS p.2.1 .no,.sl cS p.2.1.reverse .no,.sl cS p.1.reverse .no,.sl cS p.1.reverse .no,.sl cS p.2.1.reverse .no,.sl cS p.2.1 .no,.sl cS p.1 .no]
def Uc(tS:List TB)(k:List PD->(Nat->List Int)->List aG->LA):LA:=
 match tS with
 |.cells [.sl (.pair (.sl (.int .i64)) (.pair (.sl (.int .i64)) (.pair (.int .i64) (.pair (.sl (.int .i64)) .unit)))) l _]::_::_::.cells (_::T)::.cells [.sl (.pair (.int .i64) (.pair (.int .i64) (.pair (.int .i64) .unit))) st _]::_=>k l (dn T) st
 |_=>.un 0
def J68:List (Nat×LA):=
 [(1,.dep λ_ tS=>Uc tS λl F st=>.ex Nat λi=>.st {sl:=[(15,bp i)],pl:=[(5,[bp (JO (wM l F (l.length-st.length-1)) st (tw l F st i))])],cO:=[i<=l.length],m:=l.length-i}),
  (9,.dep λte tS=>Uc tS λl F st=>fZ te 15 λi=>.ex Nat λy=>.st {sl:=[(19,.unk),(25,.sl cS (qL l i) .no),(26,bp (qL l i).length),(27,bp y)],pl:=[(5,[bp (JO (wM l F (l.length-st.length-1)) st (tw l F st i++CF l F st i y))]),(10,wkC (l.getD i dP))],cO:=[y<=(qL l i).length],m:=(qL l i).length-y}),
  (15,.dep λte tS=>Uc tS λl F st=>fZ te 15 λi=>fZ te 27 λy=>.ex (List Int) λs=>.st {sl:=[(8,.sl cS s .no)],cO:=[s=mL F st i ((qL l i).getD y 0)]})]
def D49(n:Nat):List TV->List (List TV)->Dn
 |[.sl (.pair (.int .i64) (.pair (.int .i64) (.pair (.int .i64) .unit))) st .no,.ptr 0 0,.ptr 1 0,.ptr 2 0],[[.sl (.pair (.sl (.int .i64)) (.pair (.sl (.int .i64)) (.pair (.int .i64) (.pair (.sl (.int .i64)) .unit)))) l .no],[.ptr 3 0],[.fn 49 [] [.ptr 0 0,.ptr 1 0,.ptr 2 0]],.sl (.pair (.sl (.int .i64)) (.pair (.sl (.int .i64)) (.pair (.int .i64) (.pair (.sl (.int .i64)) (.pair (.sl (.int .i64)) (.pair (.sl (.int .i64)) (.pair (.sl (.int .i64)) (.pair (.sl (.int .i64)) (.pair (.sl (.int .i64)) (.pair (.sl (.int .i64)) (.pair (.sl (.int .i64)) (.pair (.sl (.int .i64)) .unit)))))))))))) ws (.stop false)::T]=>
  some ([T=bZ 256 (dn T),ws=l.map aV,l.length<=3,∀p∈l,kP p,∀j,(dn T j).length<=4352,tD l st,st.length<=l.length,l.length<st.length+n],
   .res (bp (wM l (dn T) (l.length-st.length) st)) [.agg [.sl aU l .no],.agg [.ptr 3 0],.agg [.fn 49 [] [.ptr 0 0,.ptr 1 0,.ptr 2 0]],.agg (.sl fB ws (.stop false)::T)] [],[])
 |_,_=>none
section
variable {l:List PD} {F:Nat->List Int} {st:List aG} {i y:Nat}
theorem DU{j:Nat}(h:j<256):dn (bZ 256 F) j=F j:=by unfold dn;rw[IE h]
theorem Eb:tw l F st (i+1)=tw l F st i++(if kG st (i:Int)then[]else CF l F st i (qL l i).length):=by unfold tw;rw[eR,List.flatMap_append];simp
theorem Xb(h:y<(qL l i).length):CF l F st i (y+1)=CF l F st i y++(if(mL F st i ((qL l i).getD y 0)).length=0 then[]else[(((i:Int),(qL l i).getD y 0,(mL F st i ((qL l i).getD y 0)).getD 0 0,()),mL F st i ((qL l i).getD y 0))]):=by
 unfold CF;rw[yM 0 h,List.filterMap_append];congr 1;unfold TA;by_cases e:(mL F st i ((qL l i).getD y 0)).length=0;· rw[List.filterMap_cons,if_pos e,if_pos e];rfl
 rw[List.filterMap_cons,if_neg e,if_neg e];rfl
theorem aam{p:aG×List Int}(h:p∈CF l F st i y):∃n∈qL l i,p=(((i:Int),n,(mL F st i n).getD 0 0,()),mL F st i n):=by
 unfold CF at h;rw[C1]at h;obtain⟨n,hn,h1⟩:=h;unfold TA at h1;split at h1;· cases h1
 cases h1;exact⟨n,zf hn,rfl⟩
theorem aan{p:aG×List Int}(h:p∈tw l F st i):∃k<i,kG st (k:Int)=false/\∃n∈qL l k,p=(((k:Int),n,(mL F st k n).getD 0 0,()),mL F st k n):=by
 unfold tw at h;rw[qH]at h;obtain⟨k,hk,h1⟩:=h;rw[iG]at hk;split at h1;· cases h1
 rename_i hn;exact⟨k,hk,by simpa using hn,aam h1⟩
theorem agl(hl:∀p∈l,kP p):(qL l i).length<=4:=by
 by_cases h:i<l.length;· exact q_len (fF (P:=kP) (d:=dP) h hl)
 unfold qL;rw[aP,fI (by omega)];simp
end
noncomputable def G49 (n:Nat):eZ:=((((K3.oJ 69 λa c=>dS (D69 a c)).H6 47 Try.f47 []).H6 68 Try.f68 J68).H7 49 λa t=>dS (D49 n a t)).own 49 Try.f49
def v49.q1 (p0:Nat)(p1:List (cz).den)(p2:List (aU).den)(p3:Nat)(p4:Nat->List Int)(p5:Int):Prop:=dw ((↑p0:Int)+1)/\∃(a:Nat),p1=p1/\(0:Int)=0/\p1=p1/\(↑p1.length:Int)=(↑p1.length:Int)/\p2=p2/\(↑p2.length:Int)=(↑p2.length:Int)/\false=false/\p1=p1/\List.map aV p2=List.map aV p2/\(↑(List.map aV p2).length:Int)=(↑(List.map aV p2).length:Int)/\(↑p3:Int)=(↑p3:Int)/\true=true/\(↑p3:Int)=(↑p3:Int)/\List.map aV p2=List.map aV p2/\p3=p3/\0=0/\p1=p1/\false=false/\qL p2 p3=qL p2 p3/\(↑(qL p2 p3).length:Int)=(↑(qL p2 p3).length:Int)/\(↑p0:Int)+1=(↑a:Int)/\p2=p2/\List.map aV p2=List.map aV p2/\kF (bZ 256 p4) (bZ 256 p4)/\p1=p1/\p5=JO (wM p2 (dn (bZ 256 p4)) (p2.length-p1.length-1)) p1 (tw p2 (dn (bZ 256 p4)) p1 p3++CF p2 (dn (bZ 256 p4)) p1 p3 a)/\p1=p1/\(↑p3:Int)=(↑p3:Int)/\(p2.getD p3 dP).1=(p2.getD p3 dP).1/\(p2.getD p3 dP).2.1=(p2.getD p3 dP).2.1/\(p2.getD p3 dP).2.2.1=(p2.getD p3 dP).2.2.1/\(p2.getD p3 dP).2.2.2.1=(p2.getD p3 dP).2.2.2.1/\(p2.getD p3 dP).1=(p2.getD p3 dP).1/\(p2.getD p3 dP).2.1=(p2.getD p3 dP).2.1/\List.reverse (p2.getD p3 dP).2.1=List.reverse (p2.getD p3 dP).2.1/\List.reverse (p2.getD p3 dP).1=List.reverse (p2.getD p3 dP).1/\List.reverse (p2.getD p3 dP).1=List.reverse (p2.getD p3 dP).1/\List.reverse (p2.getD p3 dP).2.1=List.reverse (p2.getD p3 dP).2.1/\(p2.getD p3 dP).2.1=(p2.getD p3 dP).2.1/\(p2.getD p3 dP).1=(p2.getD p3 dP).1/\a<=(qL p2 p3).length/\((qL p2 p3).length-a)<((qL p2 p3).length-p0)
def v49.q2 (p0:List (cz).den)(p1:List (aU).den)(p2 p3:Nat)(p4:Nat->List Int)(p5:List cS.den):Prop:=∃(a:List Int),p0=p0/\(0:Int)=0/\p0=p0/\(↑p0.length:Int)=(↑p0.length:Int)/\p1=p1/\(↑p1.length:Int)=(↑p1.length:Int)/\false=false/\p0=p0/\(qL p1 p2).getD p3 0=(qL p1 p2).getD p3 0/\p5=a/\List.map aV p1=List.map aV p1/\(↑(List.map aV p1).length:Int)=(↑(List.map aV p1).length:Int)/\(↑p2:Int)=(↑p2:Int)/\true=true/\(↑p2:Int)=(↑p2:Int)/\List.map aV p1=List.map aV p1/\p2=p2/\0=0/\p0=p0/\false=false/\qL p1 p2=qL p1 p2/\(↑(qL p1 p2).length:Int)=(↑(qL p1 p2).length:Int)/\(↑p3:Int)=(↑p3:Int)/\true=true/\qL p1 p2=qL p1 p2/\p3=p3/\0=0/\(qL p1 p2).getD p3 0=(qL p1 p2).getD p3 0/\[(0:Int)]=[(0:Int)]/\p1=p1/\List.map aV p1=List.map aV p1/\kF (bZ 256 p4) (bZ 256 p4)/\p0=p0/\JO (wM p1 (dn (bZ 256 p4)) (p1.length-p0.length-1)) p0 (tw p1 (dn (bZ 256 p4)) p0 p2++CF p1 (dn (bZ 256 p4)) p0 p2 p3)=JO (wM p1 (dn (bZ 256 p4)) (p1.length-p0.length-1)) p0 (tw p1 (dn (bZ 256 p4)) p0 p2++CF p1 (dn (bZ 256 p4)) p0 p2 p3)/\p0=p0/\(↑p2:Int)=(↑p2:Int)/\(p1.getD p2 dP).1=(p1.getD p2 dP).1/\(p1.getD p2 dP).2.1=(p1.getD p2 dP).2.1/\(p1.getD p2 dP).2.2.1=(p1.getD p2 dP).2.2.1/\(p1.getD p2 dP).2.2.2.1=(p1.getD p2 dP).2.2.2.1/\(p1.getD p2 dP).1=(p1.getD p2 dP).1/\(p1.getD p2 dP).2.1=(p1.getD p2 dP).2.1/\List.reverse (p1.getD p2 dP).2.1=List.reverse (p1.getD p2 dP).2.1/\List.reverse (p1.getD p2 dP).1=List.reverse (p1.getD p2 dP).1/\List.reverse (p1.getD p2 dP).1=List.reverse (p1.getD p2 dP).1/\List.reverse (p1.getD p2 dP).2.1=List.reverse (p1.getD p2 dP).2.1/\(p1.getD p2 dP).2.1=(p1.getD p2 dP).2.1/\(p1.getD p2 dP).1=(p1.getD p2 dP).1/\a=mL (dn (bZ 256 p4)) p0 p2 ((qL p1 p2).getD p3 0)/\True
def v49.q3 (p0:Nat)(p1:List (cz).den)(p2:List (aU).den)(p3:Nat->List Int)(p4:List (aG×List Int)):Prop:=dw ((↑p0:Int)+1)/\∃(a:Nat),p1=p1/\(0:Int)=0/\p1=p1/\(↑p1.length:Int)=(↑p1.length:Int)/\p2=p2/\(↑p2.length:Int)=(↑p2.length:Int)/\false=false/\p1=p1/\List.map aV p2=List.map aV p2/\(↑(List.map aV p2).length:Int)=(↑(List.map aV p2).length:Int)/\(↑p0:Int)+1=(↑a:Int)/\p2=p2/\List.map aV p2=List.map aV p2/\kF (bZ 256 p3) (bZ 256 p3)/\p1=p1/\JO (wM p2 (dn (bZ 256 p3)) (p2.length-p1.length-1)) p1 p4=JO (wM p2 (dn (bZ 256 p3)) (p2.length-p1.length-1)) p1 (tw p2 (dn (bZ 256 p3)) p1 a)/\p1=p1/\a<=p2.length/\(p2.length-a)<(p2.length-p0)
def v49.q4 (p0:cS.den)(p1:Prop):Prop:=(0<=p0/\p0<4)/\p1
end Go.Tv
