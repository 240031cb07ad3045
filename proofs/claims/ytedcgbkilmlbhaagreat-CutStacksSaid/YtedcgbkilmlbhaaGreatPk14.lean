import Derived.Test.YtedcgbkilmlbhaaGreatPk13
set_option maxRecDepth 100000
namespace Go.Tv
open Go Go.Di Go.Proofs
theorem jZ{α:Type}{l:List α}{i:Nat}(d:α)(h:i<l.length):l.take (i+1)=l.take i++[l.getD i d]:=by rw[List.take_succ_eq_append_getElem h,aU,cq h];rfl
abbrev dP:aF.den:=([],[],0,[],())
def iA(p:aF.den):Prop:=Ok p.1 p.2.1 p.2.2.1 p.2.2.2.1
theorem dB{α:Type}{P:α->Prop}{l:List α}{i:Nat}{d:α}(h:i<l.length)(hl:∀p∈l,P p):P (l.getD i d):=by grind
abbrev ay:Type:=Int×Int×Int×Unit
abbrev dp:=List ay
def fB(p q:PD):dp:=bM p.1 p.2.1 p.2.2.2.1 q.1 q.2.1 q.2.2.2.1 (p.2.2.1+q.2.2.1)
def od(te:cp)(i:Nat)(k:Nat->LA):LA:=
 match te.getD i .unk with
 |.val (.int .i64 n)=>k n.toNat
 |_=>.un 0
def aT(p:PD):sj.den:=(p.1,p.2.1,p.2.2.1,p.2.2.2.1,p.1,p.2.1,p.2.1.reverse,p.1.reverse,p.1.reverse,p.2.1.reverse,p.2.1,p.1,())
def aeU:cp->Dn
 |[.sl (.pair (.sl (.int .i64)) (.pair (.sl (.int .i64)) (.pair (.int .i64) (.pair (.sl (.int .i64)) .unit)))) l .no]=>some ([l.length<=1000,∀p∈l,cV p],.res (.sl sj (l.map aT) .no) [] [],
  [(4,.dep λte tS=>.ex Nat λi=>.st {sl:=[(3,.sl sj ((l.take i).map aT) (.iT tS.length)),(8,aV i)],own:=[(94,12)],cQ:=[i<=l.length],m:=l.length-i})])
 |_=>none
def Q9:eM:=U2.cG 61 λa=>dS (D50 a)
def U8.q1 (p0:List (aF).den)(p1:Int)(p2 p3:Nat):Prop:=p1=(↑p2:Int)/\p2<=p0.length/\(p0.length-p2)<p3
theorem U8:VI Q9 Tryz.f66 [some (.sl sj)] aeU:=by
 refine dH λa=>?_;unfold aeU;split
 rotate_left
 trivial;rename_i l;intro hp;refine jx (A:=(∃(a:Nat),[]=List.map aT (List.take a l)/\U8.q1 l (0:Int) a 1000000)/\∀(a:Nat),a<=l.length->aB (decide ((↑a:Int)<(↑l.length:Int))) ((0<=(↑a:Int)/\(↑a:Int)<(↑l.length:Int))/\List.length (l.getD a bm).1<=1000/\List.length (l.getD a bm).2.1<=1000/\(List.map aT (List.take a l)).length+1<=1000000000/\cR ((↑a:Int)+1)/\∃(x:Nat),ng sj.den/\List.map aT (List.take a l)++[((l.getD a bm).1,(l.getD a bm).2.1,(l.getD a bm).2.2.1,(l.getD a bm).2.2.2.1,(l.getD a bm).1,(l.getD a bm).2.1,List.reverse (l.getD a bm).2.1,List.reverse (l.getD a bm).1,List.reverse (l.getD a bm).1,List.reverse (l.getD a bm).2.1,(l.getD a bm).2.1,(l.getD a bm).1,())]=List.map aT (List.take x l)/\l=l/\(↑l.length:Int)=(↑l.length:Int)/\U8.q1 l ((↑a:Int)+1) x (l.length-a)) (List.map aT (List.take a l)=List.map aT l/\True)) (by kernel_rfl) ?_;unfold U8.q1;obtain⟨h1,h2,-⟩:=hp;change cP at l;refine⟨⟨0,rfl,rfl,ab,by first|omega|(dsimp only;omega)⟩,λi hi=>bP.2 ⟨λhl=>?_,λhl=>⟨by rw[List.take_of_length_le ab],trivial⟩⟩⟩;have sp:cV (l.getD i dP):=dB ab h2;refine⟨⟨ab,ab⟩,sp.1,sp.2.1,by rw[List.length_map,List.length_take];omega,⟨ab,ab⟩,i+1,eW▸trivial,?_,rfl,rfl,ab,ab,by first|omega|(dsimp only;omega)⟩;rw[jZ dP ab,fG];rfl
def rT:Nat->(Nat->br)->(Nat->Ap)->cp
 |0,_,_=>[]
 |n+1,f,a=>.sl bY (f 0) (a 0)::rT n (λj=>f (j+1)) λj=>a (j+1)
abbrev oB(n:Nat)(f:Nat->br)(g:Nat):cp:=rT n f λj=>.iT (g+j)
abbrev aZ(n:Nat)(f:Nat->br):cp:=rT n f λ_=>.no
theorem Jg:∀{n j:Nat}{f:Nat->br}{a:Nat->Ap},j<n->(rT n f a)[j]? =some (.sl bY (f j) (a j))
 |n+1,0,f,a,_=>rfl
 |n+1,j+1,f,a,h=>by show(rT n (λj=>f (j+1)) λj=>a (j+1))[j]? =_;exact Jg (f:=λj=>f (j+1)) (a:=λj=>a (j+1)) ab
theorem Jf:∀{n:Nat}{f:Nat->br}{a:Nat->Ap},(rT n f a).length=n
 |0,_,_=>rfl
 |n+1,f,a=>by show(rT n (λj=>f (j+1)) λj=>a (j+1)).length+1=_;rw[Jf]
theorem Rv{g:Nat}:∀{l:cp},(kL g l).length=l.length
 |[]=>rfl
 |a::l=>by rw[kL,di,di,Rv]
theorem Ru{g g':Nat}(h:g<g'):∀{n:Nat}{f:Nat->br},kL g (oB n f g')=oB n f g'
 |0,_=>rfl
 |n+1,f=>by show uH g (.sl bY (f 0) (.iT (g'+0)))::kL g (rT n (λj=>f (j+1)) λj=>.iT (g'+(j+1)))=.sl bY (f 0) (.iT (g'+0))::rT n (λj=>f (j+1)) λj=>.iT (g'+(j+1));rw[uH,if_neg ab];have:=Ru (g:=g) (g':=g'+1) ab (n:=n) (f:=λj=>f (j+1));simp only[oB,gf,nO 1]at this;rw[this]
termination_by n=>n
def RP(f:Nat->br)(j:Nat)(x:br):Nat->br:=λi=>if i=j then x else f i
theorem P9{x:br}:∀{n j g:Nat}{f:Nat->br},j<n->(kL (g+j) (oB n f g)).set j (.sl bY x (.iT (g+j)))=oB n (RP f j x) g
 |n+1,0,g,f,_=>by show .sl bY x (.iT (g+0))::kL (g+0) (rT n (λj=>f (j+1)) λj=>.iT (g+(j+1)))=.sl bY (RP f 0 x 0) (.iT (g+0))::rT n (λj=>RP f 0 x (j+1)) λj=>.iT (g+(j+1));have:=Ru (g:=g) (g':=g+1) ab (n:=n) (f:=λj=>f (j+1));simp only[oB,gf,nO 1]at this;rw[Nat.add_zero,this];simp only[RP,if_true,Nat.add_one_ne_zero,if_false]
 |n+1,j+1,g,f,h=>by have ih:=P9 (x:=x) (n:=n) (j:=j) (g:=g+1) (f:=λj=>f (j+1)) ab;simp only[oB,gf,nO 1]at ih;show uH (g+(j+1)) (.sl bY (f 0) (.iT (g+0)))::(kL (g+(j+1)) (rT n (λj=>f (j+1)) λj=>.iT (g+(j+1)))).set j (.sl bY x (.iT (g+(j+1))))=.sl bY (RP f (j+1) x 0) (.iT (g+0))::rT n (λi=>RP f (j+1) x (i+1)) λj=>.iT (g+(j+1));rw[uH,if_neg ab,ih];have e:RP f (j+1) x 0=f 0:=if_neg ab;rw[e];congr 1;congr 1;funext i;simp only[RP,Nat.add_right_cancel_iff]
theorem Ll{g:Nat}:∀{n:Nat},jY (oB n (λ_=>[]) g) (List.replicate n .ax)
 |0=>.nil
 |n+1=>by have ih:=Ll (n:=n) (g:=g+1);simp only[oB,gf,nO 1]at ih;exact .ax ih
theorem LX:∀{n:Nat}{f:Nat->br}{a:Nat->Ap},(∀j b,a j≠.stop b)->bR [] (rT n f a)=aZ n f
 |0,_,_,_=>rfl
 |n+1,f,a,h=>by
  show kF none (.sl bY (f 0) (a 0))::bR [] (rT n (λj=>f (j+1)) λj=>a (j+1))=.sl bY (f 0) .no::aZ n λj=>f (j+1);rw[LX λj b=>h (j+1) b];cases e:a 0 with
  |stop b=>exact(h 0 b e).elim
  |_=>rfl
def uE(i o k u:Nat):Nat:=u+(k*4+(o*16+i*64))
def NP(i k:Nat)(f:Nat->br)(s:ay):Nat->br:=RP f (uE i s.1.toNat k s.2.1.toNat) (f (uE i s.1.toNat k s.2.1.toNat)++[s.2.2.1])
def Pm(l:cP)(f:Nat->br)(i k n:Nat):Nat->br:=((fB (l.getD i dP) (l.getD k dP)).take n).foldl (NP i k) f
def Dv(l:cP)(f:Nat->br)(i k:Nat):Nat->br:=(List.range k).foldl (λf k=>if i=k then f else Pm l f i k (fB (l.getD i dP) (l.getD k dP)).length) f
def BQ(l:cP)(i:Nat):Nat->br:=(List.range i).foldl (λf i=>Dv l f i l.length) λ_=>[]
section
variable {l:cP} {f:Nat->br} {i k n j:Nat}
theorem WJ{p:aF.den}(h:iA p):cV p:=BU h
theorem GY{p q:PD}(h1:iA p)(h2:iA q):(fB p q).length<=272:=XW h1 h2
theorem GX{p q:PD}(h1:iA p)(h2:iA q){s:ay}(h:s∈fB p q):(0<=s.1/\s.1<=3)/\0<=s.2.1/\s.2.1<=3:=by simp only[fB,bM,rm,er]at h;obtain⟨a,ha,b,hb,s,-,rfl⟩:=h;exact⟨h1.CH a ha,h2.CH b hb⟩
theorem YG(d:ay)(h:n<(fB (l.getD i dP) (l.getD k dP)).length):Pm l f i k (n+1)=NP i k (Pm l f i k n) ((fB (l.getD i dP) (l.getD k dP)).getD n d):=by rw[Pm,Pm,jZ d h,nS];rfl
theorem Oa(h:i≠k):Dv l f i (k+1)=Pm l (Dv l f i k) i k (fB (l.getD i dP) (l.getD k dP)).length:=by rw[Dv,Dv,iy,nS,gh,List.foldl_nil,if_neg h]
theorem JA(h:i=k):Dv l f i (k+1)=Dv l f i k:=by rw[Dv,Dv,iy,nS,gh,List.foldl_nil,if_pos h]
theorem EA:BQ l (i+1)=Dv l (BQ l i) i l.length:=by rw[BQ,BQ,iy,nS];rfl
theorem aa3{x:br}{m:Nat}(h:∀j,(f j).length<=m)(hx:x.length<=m+1)(j':Nat):(RP f j x j').length<=m+1:=by
 unfold RP;split
 exact hx
 grind
theorem Mm:∀(ss:dp){f:Nat->br}{m:Nat},(∀j,(f j).length<=m)->∀j,(ss.foldl (NP i k) f j).length<=m+ss.length
 |[],f,m,h,j=>by simpa using h j
 |s::ss,f,m,h,j=>by have:=Mm ss (f:=NP i k f s) (m:=m+1) (λj=>aa3 h (by simp;have:=h (uE i s.1.toNat k s.2.1.toNat);omega) j) j;simp only[gh,di];omega
theorem QW{m:Nat}(h:∀j,(f j).length<=m)(j:Nat):(Pm l f i k n j).length<=m+n:=by have:=Mm (i:=i) (k:=k) ((fB (l.getD i dP) (l.getD k dP)).take n) h j;rw[List.length_take]at this;unfold Pm;omega
theorem JB{m:Nat}(hl:∀p∈l,iA p)(hi:i<l.length)(h:∀j,(f j).length<=m):∀(k:Nat),k<=l.length->∀j,(Dv l f i k j).length<=m+k*272
 |0,_,j=>by simpa [Dv]using h j
 |k+1,hk,j=>by
  have ih:=JB hl hi h k ab;have sl:=GY (dB (d:=dP) hi hl) (dB (d:=dP) (show k<l.length by omega) hl);by_cases e:i=k;rw[JA e];have:=ih j;omega
  rw[Oa e];have:=QW (l:=l) (i:=i) (k:=k) (n:=(fB (l.getD i dP) (l.getD k dP)).length) ih j;omega
theorem JC(hl:∀p∈l,iA p)(h4:l.length<=4):∀(i:Nat),i<=l.length->∀j,(BQ l i j).length<=i*1088
 |0,_,j=>by simp[BQ]
 |i+1,hi,j=>by have ih:=JC hl h4 i ab;rw[EA];have:=JB hl (show i<l.length by omega) ih l.length (ak _) j;have:l.length*272<=4*272:=fH _ h4;omega
theorem Px{d:sj.den}(h:k<l.length):(l.map aT).getD k d=aT (l.getD k dP):=by grind
theorem JK{c:TV}{a:Nat->Ap}{off:Nat}(ho:off=j+1)(hj:j<256):(c::rT 256 f a)[off]? =some (.sl bY (f j) (a j)):=by subst ho;rw[List.getElem?_cons_succ];exact Jg hj
theorem Yf{x:br}{g:Nat}(hg:g=1+j)(hj:j<256):jY (oB 256 (RP f j x) 1) (aai (kL g (oB 256 f 1)) j (.sl bY x (.iT g))):=by subst hg;unfold aai;rw[P9 hj];exact jY.refl _
end
abbrev VE(l:cP):TV:=.sl sj (l.map aT) (.stop true)
def Vu:cp->Dn
 |[.sl (.pair (.sl (.int .i64)) (.pair (.sl (.int .i64)) (.pair (.int .i64) (.pair (.sl (.int .i64)) .unit)))) l .no]=>some ([l.length<=4,∀p∈l,iA p],.ex (Nat->br) λf=>.res .unk (.sl sj (l.map aT) (.stop false)::aZ 256 f) [f=BQ l l.length],
  [(4,.dep λ_ tS=>.ex Nat λi=>.ex (Nat->br) λf=>.st {sl:=[(19,aV i)],pl:=[(0,VE l::oB 256 f tS.length)],own:=List.replicate 256 (3,1),cQ:=[i<=l.length,f=BQ l i],m:=l.length-i}),
   (10,.dep λte _=>od te 4 λi=>.ex Nat λk=>.ex (Nat->br) λf=>.st {sl:=[(29,aV k)],pl:=[(0,VE l::oB 256 f 1)],cQ:=[k<=l.length,f=Dv l (BQ l i) i k],m:=l.length-k}),
   (17,.dep λte _=>od te 4 λi=>od te 6 λk=>.ex dp λs=>.st {sl:=[(39,.sl bn s .no),(40,aV s.length),(41,aV 0)],cQ:=[s=fB (l.getD i dP) (l.getD k dP)]}),
   (18,.dep λte _=>od te 4 λi=>od te 6 λk=>.ex Nat λn=>.ex (Nat->br) λf=>.st {sl:=[(41,aV n)],pl:=[(0,VE l::oB 256 f 1)],cQ:=[n<=(fB (l.getD i dP) (l.getD k dP)).length,f=Pm l (Dv l (BQ l i) i k) i k n],m:=(fB (l.getD i dP) (l.getD k dP)).length-n})])
 |_=>none
noncomputable def P1:eM:=(T0.cG 66 λa=>dS (aeU a)).cG 60 S60
def dZ.q1 (p0:bC.den)(p1:Prop):Prop:=p0=p0/\p1
def dZ.q2 (p0:List (aF).den)(p1:Nat)(p2:Prop):Prop:=dZ.q1 ((List.map aT p0).getD p1 bj).1 (dZ.q1 ((List.map aT p0).getD p1 bj).2.1 (((List.map aT p0).getD p1 bj).2.2.1=((List.map aT p0).getD p1 bj).2.2.1/\dZ.q1 ((List.map aT p0).getD p1 bj).2.2.2.1 (dZ.q1 ((List.map aT p0).getD p1 bj).2.2.2.2.1 (dZ.q1 ((List.map aT p0).getD p1 bj).2.2.2.2.2.1 (dZ.q1 ((List.map aT p0).getD p1 bj).2.2.2.2.2.2.1 (dZ.q1 ((List.map aT p0).getD p1 bj).2.2.2.2.2.2.2.1 (dZ.q1 ((List.map aT p0).getD p1 bj).2.2.2.2.2.2.2.2.1 (dZ.q1 ((List.map aT p0).getD p1 bj).2.2.2.2.2.2.2.2.2.1 (dZ.q1 ((List.map aT p0).getD p1 bj).2.2.2.2.2.2.2.2.2.2.1 (dZ.q1 ((List.map aT p0).getD p1 bj).2.2.2.2.2.2.2.2.2.2.2.1 p2))))))))))
def dZ.q3 (p0:List (aF).den)(p1:Nat)(p2:Prop):Prop:=((List.map aT p0).getD p1 bj).2.2.2.2.1=((List.map aT p0).getD p1 bj).1/\((List.map aT p0).getD p1 bj).2.2.2.2.2.1=((List.map aT p0).getD p1 bj).2.1/\((List.map aT p0).getD p1 bj).2.2.2.2.2.2.1=List.reverse ((List.map aT p0).getD p1 bj).2.1/\((List.map aT p0).getD p1 bj).2.2.2.2.2.2.2.1=List.reverse ((List.map aT p0).getD p1 bj).1/\((List.map aT p0).getD p1 bj).2.2.2.2.2.2.2.2.1=List.reverse ((List.map aT p0).getD p1 bj).1/\((List.map aT p0).getD p1 bj).2.2.2.2.2.2.2.2.2.1=List.reverse ((List.map aT p0).getD p1 bj).2.1/\((List.map aT p0).getD p1 bj).2.2.2.2.2.2.2.2.2.2.1=((List.map aT p0).getD p1 bj).2.1/\((List.map aT p0).getD p1 bj).2.2.2.2.2.2.2.2.2.2.2.1=((List.map aT p0).getD p1 bj).1/\p2
def dZ.q4 (p0:List (aF).den)(p1 p2:Nat)(p3 p4:Nat->br)(p5:Nat)(p6:List (Nat×Nat))(p7:Nat):Prop:=p1<=p2/\p3=p4/\(p2-p1)<p7
def dZ.q5 (p0:List (aF).den)(p1:Nat)(p2:Prop):Prop:=List.map aT p0=List.map aT p0/\(↑(List.map aT p0).length:Int)=(↑(List.map aT p0).length:Int)/\(↑p1:Int)=(↑p1:Int)/\true=true/\(↑p1:Int)=(↑p1:Int)/\List.map aT p0=List.map aT p0/\p1=p1/\0=0/\p2
def dZ.q6 (p0 p1:Nat)(p2:List (aF).den)(p3 p4:Nat->br):Prop:=cR ((↑p0:Int)+1)/\∃(a:Nat),∃(x:Nat->br),Value.pointer none=Value.pointer none/\(↑p1:Int)=(↑p1:Int)/\dZ.q5 p2 p1 (dZ.q2 p2 p1 (List.map aT p2=List.map aT p2/\(↑(List.map aT p2).length:Int)=(↑(List.map aT p2).length:Int)/\(↑p0:Int)+1=(↑a:Int)/\List.map aT p2=List.map aT p2/\jY (oB 256 x 1) (oB 256 p4 1)/\dZ.q2 p2 p1 (dZ.q4 p2 a p2.length x (Dv p2 (BQ p2 p1) p1 a) 29 [] (p2.length-p0))))
def dZ.q7 (p0:List (aF).den)(p1:Nat):Prop:=Ok ((List.map aT p0).getD p1 bj).1 ((List.map aT p0).getD p1 bj).2.1 ((List.map aT p0).getD p1 bj).2.2.1 ((List.map aT p0).getD p1 bj).2.2.2.1
def dZ.q8 (p0:Nat)(p1:bY.den)(p2:Prop):Prop:=(0<=(↑p0:Int)/\(↑p0:Int)<4)/\(0<=p1/\p1<4)/\p2
def dZ.q9 (p0:List (aF).den)(p1:Nat->br)(p2:cp)(p3:Prop):Prop:=List.map aT p0=List.map aT p0/\jY (oB 256 p1 1) p2/\p3
theorem dZ:VN P1 Tryz.f71 [] Vu:=by
 refine acK λa=>?_;unfold Vu;split
 rotate_left
 trivial;rename_i l;intro hp;refine jx (A:=l.length<=1000/\(∀(p:(aF).den),p∈l->cV p)/\(∃(a:Nat),∃(r:Nat->br),0=(↑a:Int)/\dZ.q9 l r [TV.ax,TV.ax,TV.ax,TV.ax,TV.ax,TV.ax,TV.ax,TV.ax,TV.ax,TV.ax,TV.ax,TV.ax,TV.ax,TV.ax,TV.ax,TV.ax,TV.ax,TV.ax,TV.ax,TV.ax,TV.ax,TV.ax,TV.ax,TV.ax,TV.ax,TV.ax,TV.ax,TV.ax,TV.ax,TV.ax,TV.ax,TV.ax,TV.ax,TV.ax,TV.ax,TV.ax,TV.ax,TV.ax,TV.ax,TV.ax,TV.ax,TV.ax,TV.ax,TV.ax,TV.ax,TV.ax,TV.ax,TV.ax,TV.ax,TV.ax,TV.ax,TV.ax,TV.ax,TV.ax,TV.ax,TV.ax,TV.ax,TV.ax,TV.ax,TV.ax,TV.ax,TV.ax,TV.ax,TV.ax,TV.ax,TV.ax,TV.ax,TV.ax,TV.ax,TV.ax,TV.ax,TV.ax,TV.ax,TV.ax,TV.ax,TV.ax,TV.ax,TV.ax,TV.ax,TV.ax,TV.ax,TV.ax,TV.ax,TV.ax,TV.ax,TV.ax,TV.ax,TV.ax,TV.ax,TV.ax,TV.ax,TV.ax,TV.ax,TV.ax,TV.ax,TV.ax,TV.ax,TV.ax,TV.ax,TV.ax,TV.ax,TV.ax,TV.ax,TV.ax,TV.ax,TV.ax,TV.ax,TV.ax,TV.ax,TV.ax,TV.ax,TV.ax,TV.ax,TV.ax,TV.ax,TV.ax,TV.ax,TV.ax,TV.ax,TV.ax,TV.ax,TV.ax,TV.ax,TV.ax,TV.ax,TV.ax,TV.ax,TV.ax,TV.ax,TV.ax,TV.ax,TV.ax,TV.ax,TV.ax,TV.ax,TV.ax,TV.ax,TV.ax,TV.ax,TV.ax,TV.ax,TV.ax,TV.ax,TV.ax,TV.ax,TV.ax,TV.ax,TV.ax,TV.ax,TV.ax,TV.ax,TV.ax,TV.ax,TV.ax,TV.ax,TV.ax,TV.ax,TV.ax,TV.ax,TV.ax,TV.ax,TV.ax,TV.ax,TV.ax,TV.ax,TV.ax,TV.ax,TV.ax,TV.ax,TV.ax,TV.ax,TV.ax,TV.ax,TV.ax,TV.ax,TV.ax,TV.ax,TV.ax,TV.ax,TV.ax,TV.ax,TV.ax,TV.ax,TV.ax,TV.ax,TV.ax,TV.ax,TV.ax,TV.ax,TV.ax,TV.ax,TV.ax,TV.ax,TV.ax,TV.ax,TV.ax,TV.ax,TV.ax,TV.ax,TV.ax,TV.ax,TV.ax,TV.ax,TV.ax,TV.ax,TV.ax,TV.ax,TV.ax,TV.ax,TV.ax,TV.ax,TV.ax,TV.ax,TV.ax,TV.ax,TV.ax,TV.ax,TV.ax,TV.ax,TV.ax,TV.ax,TV.ax,TV.ax,TV.ax,TV.ax,TV.ax,TV.ax,TV.ax,TV.ax,TV.ax,TV.ax,TV.ax,TV.ax,TV.ax,TV.ax,TV.ax,TV.ax,TV.ax,TV.ax,TV.ax,TV.ax,TV.ax,TV.ax,TV.ax,TV.ax,TV.ax,TV.ax,TV.ax,TV.ax,TV.ax,TV.ax,TV.ax,TV.ax,TV.ax,TV.ax,TV.ax] (dZ.q4 l a l.length r (BQ l a) 19 (List.replicate 256 (3,1)) 1000000))/\∀(a:Nat)(r:Nat->br),a<=l.length->r=BQ l a->aB (decide ((↑a:Int)<(↑(List.map aT l).length:Int))) ((0<=(↑a:Int)/\(↑a:Int)<(↑(List.map aT l).length:Int))/\(∃(y:Nat),∃(v:Nat->br),0=(↑y:Int)/\dZ.q9 l v (oB 256 r 1) (dZ.q4 l y l.length v (Dv l (BQ l a) a y) 29 [] 1000000))/\∀(y:Nat)(v:Nat->br),y<=l.length->v=Dv l (BQ l a) a y->aB (decide ((↑y:Int)<(↑(List.map aT l).length:Int))) ((0<=(↑y:Int)/\(↑y:Int)<(↑(List.map aT l).length:Int))/\aB ((↑a:Int)==(↑y:Int)) (dZ.q6 y a l v v) ((dZ.q7 l a/\dZ.q7 l y/\dZ.q3 l a (dZ.q3 l y (∃(z:dp),Value.pointer none=Value.pointer none/\(↑a:Int)=(↑a:Int)/\(↑y:Int)=(↑y:Int)/\dZ.q5 l a (dZ.q2 l a (dZ.q5 l y (dZ.q2 l y ((↑a:Int)=(↑a:Int)/\(↑y:Int)=(↑y:Int)/\false=false/\bM ((List.map aT l).getD a bj).1 ((List.map aT l).getD a bj).2.1 ((List.map aT l).getD a bj).2.2.2.1 ((List.map aT l).getD y bj).1 ((List.map aT l).getD y bj).2.1 ((List.map aT l).getD y bj).2.2.2.1 (((List.map aT l).getD a bj).2.2.1+((List.map aT l).getD y bj).2.2.1)=z/\(↑(bM ((List.map aT l).getD a bj).1 ((List.map aT l).getD a bj).2.1 ((List.map aT l).getD a bj).2.2.2.1 ((List.map aT l).getD y bj).1 ((List.map aT l).getD y bj).2.1 ((List.map aT l).getD y bj).2.2.2.1 (((List.map aT l).getD a bj).2.2.1+((List.map aT l).getD y bj).2.2.1)).length:Int)=(↑z.length:Int)/\(0:Int)=0/\dZ.q9 l v (oB 256 v 1) (dZ.q2 l a (dZ.q2 l y (z=fB (l.getD a dP) (l.getD y dP)/\True))))))))))/\∀(z:dp),z=fB (l.getD a dP) (l.getD y dP)->(∃(u:Nat),∃(w:Nat->br),0=(↑u:Int)/\dZ.q9 l w (oB 256 v 1) (dZ.q4 l u (fB (l.getD a dP) (l.getD y dP)).length w (Pm l (Dv l (BQ l a) a y) a y u) 41 [] 1000000))/\∀(u:Nat)(w:Nat->br),u<=(fB (l.getD a dP) (l.getD y dP)).length->w=Pm l (Dv l (BQ l a) a y) a y u->aB (decide ((↑u:Int)<(↑z.length:Int))) ((0<=(↑u:Int)/\(↑u:Int)<(↑z.length:Int))/\dZ.q8 a (z.getD u bo).1 (dZ.q8 y (z.getD u bo).2.1 (∃(te:List bY.den),∃(R5:Nat),(TV.sl sj (List.map aT l) (Ap.stop true)::oB 256 w 1)[Int.toNat (z.getD u bo).2.1*1+(y*4+(Int.toNat (z.getD u bo).1*16+(a*64+1)))]? =some (TV.sl bY te (Ap.iT R5))/\(1<=R5/\R5<257)/\te.length+1<=1000000000/\dZ.q8 a (z.getD u bo).1 (dZ.q8 y (z.getD u bo).2.1 (∃(x:Nat),Int.toNat (z.getD u bo).2.1*1+(y*4+(Int.toNat (z.getD u bo).1*16+(a*64+1)))=x+1/\x<(kL R5 (oB 256 w 1)).length/\cR ((↑u:Int)+1)/\∃(s:Nat),∃(t:Nat->br),Value.pointer none=Value.pointer none/\(↑a:Int)=(↑a:Int)/\(↑y:Int)=(↑y:Int)/\dZ.q5 l a (dZ.q2 l a (dZ.q5 l y (dZ.q2 l y ((↑a:Int)=(↑a:Int)/\(↑y:Int)=(↑y:Int)/\false=false/\z=z/\(↑z.length:Int)=(↑z.length:Int)/\(↑u:Int)+1=(↑s:Int)/\dZ.q9 l t (aai (kL R5 (oB 256 w 1)) x (TV.sl bY (te++[(z.getD u bo).2.2.1]) (Ap.iT R5))) (dZ.q2 l a (dZ.q2 l y (dZ.q4 l s (fB (l.getD a dP) (l.getD y dP)).length t (Pm l (Dv l (BQ l a) a y) a y s) 41 [] ((fB (l.getD a dP) (l.getD y dP)).length-u))))))))))))) (dZ.q6 y a l v w))) (cR ((↑a:Int)+1)/\∃(z:Nat),∃(u:Nat->br),Value.pointer none=Value.pointer none/\List.map aT l=List.map aT l/\(↑(List.map aT l).length:Int)=(↑(List.map aT l).length:Int)/\(↑a:Int)+1=(↑z:Int)/\dZ.q9 l u (oB 256 v 1) (dZ.q4 l z l.length u (BQ l z) 19 (List.replicate 256 (3,1)) (l.length-a)))) (∃(a:Nat->br),List.map aT l=List.map aT l/\bR [] (oB 256 r 1)=aZ 256 a/\a=BQ l l.length/\True)) (by kernel_rfl) ?_;unfold dZ.q9 dZ.q8 dZ.q7 dZ.q6 dZ.q5 dZ.q4 dZ.q3 dZ.q2 dZ.q1;obtain⟨h1,h2,-⟩:=hp;change cP at l;have sh:∀p∈l,cV p:=λp hp=>WJ (h2 p hp);simp only[bP,cH,eq_self,true_and,and_true,eW,cR,List.length_map];refine⟨ab,sh,⟨0,λ_=>[],ab,Ll (n:=256) (g:=1),ab,rfl,ab⟩,λi f hi hf=>⟨λNp=>⟨⟨ab,ab⟩,⟨0,f,ab,jY.refl _,ab,hf,ab⟩,λk f1 hk Nr=>⟨λrC=>⟨⟨ab,ab⟩,λe=>?_,λe=>?_⟩,λrC=>?_⟩⟩,λNp=>?_⟩⟩;exact⟨⟨ab,ab⟩,k+1,f1,ab,jY.refl _,ab,(JA (l:=l) (by omega:i=k)).symm▸Nr,ab⟩;have o1:iA (l.getD i dP):=dB ab h2;have o2:iA (l.getD k dP):=dB ab h2;have sl:=GY o1 o2;simp only[Px (l:=l) (k:=i) ab,Px (l:=l) (k:=k) ab,aT,eq_self,true_and];refine⟨⟨o1,o2,_,rfl,rfl,jY.refl _,rfl⟩,λs hs=>?_⟩;subst hs;refine⟨⟨0,f1,ab,jY.refl _,ab,Nr,ab⟩,λn f2 hn UW=>⟨λAK=>?_,λAK=>?_⟩⟩;have AK:n<(fB (l.getD i dP) (l.getD k dP)).length:=nP.1 AK;have hm:(fB (l.getD i dP) (l.getD k dP)).getD n bo∈fB (l.getD i dP) (l.getD k dP):=dB AK λ_ h=>h;have st:=YG (l:=l) (f:=Dv l (BQ l i) i k) (i:=i) (k:=k) bo AK;have li:=GX o1 o2 hm;have bl:=QW (l:=l) (i:=i) (k:=k) (n:=n) (JB h2 (show i<l.length by omega) (JC h2 h1 i ab) k ab);rw[<-UW]at st bl
 revert st li
 generalize(fB (l.getD i dP) (l.getD k dP)).getD n bo=s;rintro st ⟨⟨x0,x3⟩,y0,y3⟩;have hj:uE i s.1.toNat k s.2.1.toNat<256:=by unfold uE;omega
 have ho:s.2.1.toNat*1+(k*4+(s.1.toNat*16+(i*64+1)))=uE i s.1.toNat k s.2.1.toNat+1:=by unfold uE;omega
 have b1:=bl (uE i s.1.toNat k s.2.1.toNat);refine⟨⟨ab,nP.2 AK⟩,⟨ab,ab⟩,⟨x0,wE x3⟩,⟨ab,ab⟩,⟨y0,wE y3⟩,f2 (uE i s.1.toNat k s.2.1.toNat),1+uE i s.1.toNat k s.2.1.toNat,JK ho hj,⟨ab,ab⟩,ab,⟨ab,ab⟩,⟨x0,wE x3⟩,⟨ab,ab⟩,⟨y0,wE y3⟩,uE i s.1.toNat k s.2.1.toNat,ho,?_,⟨ab,ab⟩,n+1,_,ab,Yf rfl hj,ab,st.symm,ab⟩;rw[Rv,Jf];exact hj
 have AK:¬n<(fB (l.getD i dP) (l.getD k dP)).length:=λh=>AK (nP.2 h);refine⟨⟨ab,ab⟩,k+1,f2,ab,jY.refl _,ab,?_,ab⟩;rw[Oa (by omega:i≠k),<-show n=(fB (l.getD i dP) (l.getD k dP)).length by omega];exact UW;refine⟨⟨ab,ab⟩,i+1,f1,ab,jY.refl _,ab,?_,ab⟩;rw[EA,<-show k=l.length by omega];exact Nr;exact⟨f,LX (a:=λj=>.iT (1+j)) (λj b e=>nomatch e),by rw[hf,show i=l.length by omega]⟩
end Go.Tv
namespace Go.Tv
open Go Go.Di Go.Proofs
def fA(st:dp)(x:Int):Bool:=st.any λe=>e.1==x
abbrev kU:ay:=(0,0,0,())
section
variable {l:cP} {F:Nat->br} {st:dp} {i y:Nat}
theorem EF(h:y<st.length){x:Int}(hx:fA (st.take y) x=false)(hne:¬(st.getD y kU).1=x):fA (st.take (y+1)) x=false:=by rw[jZ kU h];unfold fA at hx⊢;rw[List.any_append,hx];simpa using hne
theorem Om(h:y<st.length){x:Int}(he:(st.getD y kU).1=x):fA st x=true:=by unfold fA;rw[List.any_eq_true];exact⟨_,dB (P:=λe=>e∈st) (d:=kU) h λ_ h=>h,by simpa using he⟩
end
def D70:cp->cp->Dn
 |[.agg [.val (.int .i64 a),.val (.int .i64 _),.val (.int .i64 _)],.ptr 0 0],[.val (.int .i64 x)]=>some ([],.res (kR (a==x)) [aV x] [],[])
 |_,_=>none
theorem v70:VC T0 Tryz.f114 [some .bool] [some bY] D70:=by
 refine lN λa cs=>?_;unfold D70;split
 rotate_left
 trivial;rename_i a b c x;intro hp;refine jx (A:=(a==x)=(a==x)/\x=x/\True) (by kernel_rfl) ?_;exact⟨rfl,rfl,trivial⟩
def K2:eM:=T0.mB 114 λa c=>dS (D70 a c)
def KB(st:dp)(x:Int)(r:Int):Prop:=(r=-1/\fA st x=false)\/(0<=r/\fA st x=true)
def aeQ:cp->cp->Dn
 |[.sl (.pair (.int .i64) (.pair (.int .i64) (.pair (.int .i64) .unit))) l .no,.fn 114 [] [.ptr 0 0]],[.val (.int .i64 x)]=>some ([l.length<=1000],.ex Int λr=>.res (aV r) [aV x] [KB l x r],[(3,.ex Nat λi=>.st {sl:=[(8,aV i)],cQ:=[i<=l.length,fA (l.take i) x=false],m:=l.length-i})])
 |_,_=>none
theorem aiO:VC K2 Tryz.f131 [some bY] [some bY] aeQ:=by
 refine lN λa cs=>?_;unfold aeQ;split
 rotate_left
 trivial;rename_i l x;intro hp;change dp at l;refine jx (A:=(∃(a:Nat),0=(↑a:Int)/\a<=l.length/\fA (List.take a l) x=false/\(l.length-a)<1000000)/\∀(a:Nat),a<=l.length->fA (List.take a l) x=false->aB (decide ((↑a:Int)<(↑l.length:Int))) ((0<=(↑a:Int)/\(↑a:Int)<(↑l.length:Int))/\aB ((l.getD a bo).1==x) (∃(y:Int),(↑a:Int)=y/\x=x/\KB l x y/\True) (cR ((↑a:Int)+1)/\∃(y:Nat),l=l/\(↑l.length:Int)=(↑l.length:Int)/\(↑a:Int)+1=(↑y:Int)/\x=x/\y<=l.length/\fA (List.take y l) x=false/\(l.length-y)<(l.length-a))) (∃(a:Int),(-1:Int)=a/\x=x/\KB l x a/\True)) (by kernel_rfl) ?_;have h1:=hp.1;simp only[bP,cH,eq_self,true_and,and_true,cR];refine⟨⟨0,rfl,ab,rfl,ab⟩,λi hi hh=>⟨λhl=>⟨⟨ab,ab⟩,λe=>⟨_,rfl,.inr ⟨ab,Om ab e⟩⟩,λe=>⟨⟨ab,ab⟩,i+1,ab,ab,EF ab hh e,ab⟩⟩,λhl=>⟨_,rfl,.inl ⟨rfl,by rw[<-List.take_of_length_le (l:=l) (i:=i) ab];exact hh⟩⟩⟩⟩
def K3:eM:=K2.mB 131 λa c=>dS (aeQ a c)
def D69:cp->cp->Dn
 |[.sl (.pair (.int .i64) (.pair (.int .i64) (.pair (.int .i64) .unit))) l .no,.fn 114 [] [.ptr 0 0]],[.val (.int .i64 x)]=>some ([l.length<=1000],.res (kR (fA l x)) [aV x] [],[])
 |_,_=>none
theorem v69:VC K3 Tryz.f113 [some .bool] [some bY] D69:=by
 refine lN λa cs=>?_;unfold D69;split
 rotate_left
 trivial;rename_i l x;intro hp;change dp at l;refine jx (A:=l.length<=1000/\∀(a:Int),KB l x a->decide (a>=0)=fA l x/\x=x/\True) (by kernel_rfl) ?_;refine⟨hp.1,λr hr=>⟨?_,rfl,trivial⟩⟩;rcases hr with ⟨rfl,h⟩|⟨h0,h⟩
 grind
 grind
abbrev qL(l:cP)(i:Nat):br:=(l.getD i dP).2.2.2.1
def bW(T:cp)(j:Nat):br:=
 match T[j]? with
 |some (.sl (.int .i64) x _)=>x
 |_=>[]
def gE(F:Nat->br)(st:dp)(i:Nat)(n:Int):br:=if st.length=0 then[0]else F (uE (st.getD (st.length-1) kU).1.toNat (st.getD (st.length-1) kU).2.1.toNat i n.toNat)
def NF(F:Nat->br)(st:dp)(i:Nat)(n:Int):Option (ay×br):=if(gE F st i n).length=0 then none else some (((i:Int),n,(gE F st i n).getD 0 0,()),gE F st i n)
def rQ(l:cP)(F:Nat->br)(st:dp)(i y:Nat):List (ay×br):=((qL l i).take y).filterMap (NF F st i)
def mo(l:cP)(F:Nat->br)(st:dp)(i:Nat):List (ay×br):=(List.range i).flatMap λ(i:Nat)=>if fA st (i:Int)then[]else rQ l F st i (qL l i).length
def jB(g:dp->Int)(st:dp)(ns:List (ay×br)):Int:=(ns.map λp=>(p.2.length:Int)*g (st++[p.1])).sum
def dw(l:cP)(F:Nat->br):Nat->dp->Int
 |0,_=>1
 |r+1,st=>jB (dw l F r) st (mo l F st l.length)
def rD(l:cP)(st:dp):Prop:=∀x∈st,(0<=x.1/\x.1<(l.length:Int))/\0<=x.2.1/\x.2.1<=3
abbrev wkC(p:PD):cp:=[.sl bY p.1 .no,.sl bY p.2.1 .no,aV p.2.2.1,.sl bY p.2.2.2.1 .no,.sl bY p.1 .no,.sl bY p.2.1 .no,.sl bY p.2.1.reverse .no,.sl bY p.1.reverse .no,.sl bY p.1.reverse .no,.sl bY p.2.1.reverse .no,.sl bY p.2.1 .no,.sl bY p.1 .no]
def Vw(tS:cx)(k:cP->(Nat->br)->dp->LA):LA:=
 match tS with
 |.cells [.sl (.pair (.sl (.int .i64)) (.pair (.sl (.int .i64)) (.pair (.int .i64) (.pair (.sl (.int .i64)) .unit)))) l _]::_::_::.cells (_::T)::.cells [.sl (.pair (.int .i64) (.pair (.int .i64) (.pair (.int .i64) .unit))) st _]::_=>k l (bW T) st
 |_=>.un 0
def J68:List (Nat×LA):=
 [(1,.dep λ_ tS=>Vw tS λl F st=>.ex Nat λi=>.st {sl:=[(15,aV i)],pl:=[(5,[aV (jB (dw l F (l.length-st.length-1)) st (mo l F st i))])],cQ:=[i<=l.length],m:=l.length-i}),
  (9,.dep λte tS=>Vw tS λl F st=>od te 15 λi=>.ex Nat λy=>.st {sl:=[(19,.unk),(25,.sl bY (qL l i) .no),(26,aV (qL l i).length),(27,aV y)],pl:=[(5,[aV (jB (dw l F (l.length-st.length-1)) st (mo l F st i++rQ l F st i y))]),(10,wkC (l.getD i dP))],cQ:=[y<=(qL l i).length],m:=(qL l i).length-y}),
  (15,.dep λte tS=>Vw tS λl F st=>od te 15 λi=>od te 27 λy=>.ex br λs=>.st {sl:=[(8,.sl bY s .no)],cQ:=[s=gE F st i ((qL l i).getD y 0)]})]
def D49(n:Nat):cp->List cp->Dn
 |[.sl (.pair (.int .i64) (.pair (.int .i64) (.pair (.int .i64) .unit))) st .no,.ptr 0 0,.ptr 1 0,.ptr 2 0],[[.sl (.pair (.sl (.int .i64)) (.pair (.sl (.int .i64)) (.pair (.int .i64) (.pair (.sl (.int .i64)) .unit)))) l .no],[.ptr 3 0],[.fn 72 [] [.ptr 0 0,.ptr 1 0,.ptr 2 0]],.sl (.pair (.sl (.int .i64)) (.pair (.sl (.int .i64)) (.pair (.int .i64) (.pair (.sl (.int .i64)) (.pair (.sl (.int .i64)) (.pair (.sl (.int .i64)) (.pair (.sl (.int .i64)) (.pair (.sl (.int .i64)) (.pair (.sl (.int .i64)) (.pair (.sl (.int .i64)) (.pair (.sl (.int .i64)) (.pair (.sl (.int .i64)) .unit)))))))))))) ws (.stop false)::T]=>
  some ([T=aZ 256 (bW T),ws=l.map aT,l.length<=3,∀p∈l,iA p,∀j,(bW T j).length<=4352,rD l st,st.length<=l.length,l.length<st.length+n],
   .res (aV (dw l (bW T) (l.length-st.length) st)) [.agg [.sl aF l .no],.agg [.ptr 3 0],.agg [.fn 72 [] [.ptr 0 0,.ptr 1 0,.ptr 2 0]],.agg (.sl sj ws (.stop false)::T)] [],[])
 |_,_=>none
section
variable {l:cP} {F:Nat->br} {st:dp} {i y:Nat}
theorem sw{j:Nat}(h:j<256):bW (aZ 256 F) j=F j:=by unfold bW;rw[Jg h]
theorem qn:mo l F st (i+1)=mo l F st i++(if fA st (i:Int)then[]else rQ l F st i (qL l i).length):=by unfold mo;rw[iy,List.flatMap_append];simp
theorem LW(h:y<(qL l i).length):rQ l F st i (y+1)=rQ l F st i y++(if(gE F st i ((qL l i).getD y 0)).length=0 then[]else[(((i:Int),(qL l i).getD y 0,(gE F st i ((qL l i).getD y 0)).getD 0 0,()),gE F st i ((qL l i).getD y 0))]):=by
 unfold rQ;rw[jZ 0 h,List.filterMap_append];congr 1;unfold NF;by_cases e:(gE F st i ((qL l i).getD y 0)).length=0
 grind
 grind
theorem Yz:rQ l F st i 0=[]:=rfl
theorem XC{g:dp->Int}{a b:List (ay×br)}:jB g st (a++b)=jB g st a+jB g st b:=by unfold jB;rw[fG,List.sum_append]
theorem XB{g:dp->Int}{p:ay×br}:jB g st [p]=(p.2.length:Int)*g (st++[p.1]):=by simp[jB]
theorem Jh{g:dp->Int}{m:Int}(hg:∀s,0<=g s/\g s<=m):∀(ns:List (ay×br)),(∀p∈ns,p.2.length<=4352)->0<=jB g st ns/\jB g st ns<=(ns.length:Int)*(4352*m)
 |[],_=>by simp[jB]
 |p::ns,h=>by
  have ih:=Jh hg ns λq hq=>h q (by simp[hq]);have hp:=h p ae;obtain⟨g0,g1⟩:=hg (st++[p.1]);have e:jB g st (p::ns)=(p.2.length:Int)*g (st++[p.1])+jB g st ns:=by simp[jB]
  have h1:(p.2.length:Int)*g (st++[p.1])<=4352*m:=Int.mul_le_mul ab g1 g0 ab;have h2:0<=(p.2.length:Int)*g (st++[p.1]):=Int.mul_nonneg ab g0;rw[e,di]
  push_cast
  rw[Int.add_mul];omega
theorem PC(hF:∀j,(F j).length<=4352){n:Int}:(gE F st i n).length<=4352:=by
 unfold gE;split
 simp;exact hF _
theorem QL{p:ay×br}(h:p∈rQ l F st i y):∃n∈qL l i,p=(((i:Int),n,(gE F st i n).getD 0 0,()),gE F st i n):=by
 unfold rQ at h;rw[RJ]at h;obtain⟨n,hn,h1⟩:=h;unfold NF at h1;split at h1;cases h1
 grind
theorem Df{p:ay×br}(h:p∈mo l F st i):∃k<i,fA st (k:Int)=false/\∃n∈qL l k,p=(((k:Int),n,(gE F st k n).getD 0 0,()),gE F st k n):=by unfold mo at h;rw[rm]at h;obtain⟨k,hk,h1⟩:=h;rw[qY]at hk;split at h1;cases h1;rename_i hn;exact⟨k,hk,by simpa using hn,QL h1⟩
theorem QM:(rQ l F st i y).length<=(qL l i).length:=by unfold rQ;refine bt (List.length_filterMap_le ..) ?_;rw[List.length_take];omega
theorem DO(hl:∀p∈l,iA p):(qL l i).length<=4:=by
 by_cases h:i<l.length;exact q_len (dB (P:=iA) (d:=dP) h hl)
 grind
theorem Jy(hl:∀p∈l,iA p):∀i,(mo l F st i).length<=i*4
 |0=>by simp[mo]
 |i+1=>by
  have ih:=Jy hl i;rw[qn,cn];have:(if fA st (i:Int)then[]else rQ l F st i (qL l i).length).length<=4:=by split;simp;exact bt QM (DO hl)
  omega
theorem ahN(hF:∀j,(F j).length<=4352){p:ay×br}(h:p∈mo l F st i++rQ l F st i y):p.2.length<=4352:=by
 rcases eG.1 h with h|h;obtain⟨k,-,-,n,-,rfl⟩:=Df h;exact PC hF
 obtain⟨n,-,rfl⟩:=QL h;exact PC hF
theorem Rb(hl:∀p∈l,iA p)(h3:l.length<=3)(hF:∀j,(F j).length<=4352):∀(r:Nat)(st:dp),0<=dw l F r st/\dw l F r st<=52224^r
 |0,st=>by simp[dw]
 |r+1,st=>by
  have ih:=Rb hl h3 hF r;have:=Jh (st:=st) (g:=dw l F r) (m:=52224^r) ih (mo l F st l.length) λp hp=>by obtain⟨k,-,-,n,-,rfl⟩:=Df hp;exact PC hF
  have hn:=Jy (F:=F) (st:=st) hl l.length;have hp:(0:Int)<=4352*52224^r:=Int.mul_nonneg ab (Int.pow_nonneg ab);have h1:((mo l F st l.length).length:Int)*(4352*52224^r)<=12*(4352*52224^r):=RN ab hp;rw[dw];refine⟨this.1,JO this.2 (JO h1 ?_)⟩;rw[Int.pow_succ];omega
theorem Mj(hl:∀p∈l,iA p)(h3:l.length<=3)(hF:∀j,(F j).length<=4352){r:Nat}(hr:r<=2)(st:dp):0<=dw l F r st/\dw l F r st<=2727346176:=by
 have h:=Rb hl h3 hF r st;refine⟨h.1,JO h.2 ?_⟩;have:r=0\/r=1\/r=2:=ab
 rcases this with rfl|rfl|rfl<;>decide
theorem aft(hl:∀p∈l,iA p)(h3:l.length<=3)(hF:∀j,(F j).length<=4352){r:Nat}(hr:r<=2)(hi:i<=3):0<=jB (dw l F r) st (mo l F st i++rQ l F st i y)/\jB (dw l F r) st (mo l F st i++rQ l F st i y)<=189910568927232:=by have h:=Jh (st:=st) (g:=dw l F r) (m:=2727346176) (Mj hl h3 hF hr) (mo l F st i++rQ l F st i y) λp hp=>ahN hF hp;have h1:=Jy (F:=F) (st:=st) hl i;have h2:=QM (l:=l) (F:=F) (st:=st) (i:=i) (y:=y);have h4:=DO (i:=i) hl;rw[cn]at h;omega
end
noncomputable def G49 (n:Nat):eM:=((((K3.mB 113 λa c=>dS (D69 a c)).DN 73 Tryz.f73 []).DN 112 Tryz.f112 J68).IC 72 λa t=>dS (D49 n a t)).own 72 Tryz.f72
def v49.q1 (p0:Nat)(p1:List (bn).den)(p2:List (aF).den)(p3:Nat)(p4:Nat->br)(p5:Int):Prop:=cR ((↑p0:Int)+1)/\∃(a:Nat),p1=p1/\(0:Int)=0/\p1=p1/\(↑p1.length:Int)=(↑p1.length:Int)/\p2=p2/\(↑p2.length:Int)=(↑p2.length:Int)/\false=false/\p1=p1/\List.map aT p2=List.map aT p2/\(↑(List.map aT p2).length:Int)=(↑(List.map aT p2).length:Int)/\(↑p3:Int)=(↑p3:Int)/\true=true/\(↑p3:Int)=(↑p3:Int)/\List.map aT p2=List.map aT p2/\p3=p3/\0=0/\p1=p1/\false=false/\qL p2 p3=qL p2 p3/\(↑(qL p2 p3).length:Int)=(↑(qL p2 p3).length:Int)/\(↑p0:Int)+1=(↑a:Int)/\p2=p2/\List.map aT p2=List.map aT p2/\jY (aZ 256 p4) (aZ 256 p4)/\p1=p1/\p5=jB (dw p2 (bW (aZ 256 p4)) (p2.length-p1.length-1)) p1 (mo p2 (bW (aZ 256 p4)) p1 p3++rQ p2 (bW (aZ 256 p4)) p1 p3 a)/\p1=p1/\(↑p3:Int)=(↑p3:Int)/\(p2.getD p3 dP).1=(p2.getD p3 dP).1/\(p2.getD p3 dP).2.1=(p2.getD p3 dP).2.1/\(p2.getD p3 dP).2.2.1=(p2.getD p3 dP).2.2.1/\(p2.getD p3 dP).2.2.2.1=(p2.getD p3 dP).2.2.2.1/\(p2.getD p3 dP).1=(p2.getD p3 dP).1/\(p2.getD p3 dP).2.1=(p2.getD p3 dP).2.1/\List.reverse (p2.getD p3 dP).2.1=List.reverse (p2.getD p3 dP).2.1/\List.reverse (p2.getD p3 dP).1=List.reverse (p2.getD p3 dP).1/\List.reverse (p2.getD p3 dP).1=List.reverse (p2.getD p3 dP).1/\List.reverse (p2.getD p3 dP).2.1=List.reverse (p2.getD p3 dP).2.1/\(p2.getD p3 dP).2.1=(p2.getD p3 dP).2.1/\(p2.getD p3 dP).1=(p2.getD p3 dP).1/\a<=(qL p2 p3).length/\((qL p2 p3).length-a)<((qL p2 p3).length-p0)
def v49.q2 (p0:List (bn).den)(p1:List (aF).den)(p2 p3:Nat)(p4:Nat->br)(p5:List bY.den):Prop:=∃(a:br),p0=p0/\(0:Int)=0/\p0=p0/\(↑p0.length:Int)=(↑p0.length:Int)/\p1=p1/\(↑p1.length:Int)=(↑p1.length:Int)/\false=false/\p0=p0/\(qL p1 p2).getD p3 0=(qL p1 p2).getD p3 0/\p5=a/\List.map aT p1=List.map aT p1/\(↑(List.map aT p1).length:Int)=(↑(List.map aT p1).length:Int)/\(↑p2:Int)=(↑p2:Int)/\true=true/\(↑p2:Int)=(↑p2:Int)/\List.map aT p1=List.map aT p1/\p2=p2/\0=0/\p0=p0/\false=false/\qL p1 p2=qL p1 p2/\(↑(qL p1 p2).length:Int)=(↑(qL p1 p2).length:Int)/\(↑p3:Int)=(↑p3:Int)/\true=true/\qL p1 p2=qL p1 p2/\p3=p3/\0=0/\(qL p1 p2).getD p3 0=(qL p1 p2).getD p3 0/\[(0:Int)]=[(0:Int)]/\p1=p1/\List.map aT p1=List.map aT p1/\jY (aZ 256 p4) (aZ 256 p4)/\p0=p0/\jB (dw p1 (bW (aZ 256 p4)) (p1.length-p0.length-1)) p0 (mo p1 (bW (aZ 256 p4)) p0 p2++rQ p1 (bW (aZ 256 p4)) p0 p2 p3)=jB (dw p1 (bW (aZ 256 p4)) (p1.length-p0.length-1)) p0 (mo p1 (bW (aZ 256 p4)) p0 p2++rQ p1 (bW (aZ 256 p4)) p0 p2 p3)/\p0=p0/\(↑p2:Int)=(↑p2:Int)/\(p1.getD p2 dP).1=(p1.getD p2 dP).1/\(p1.getD p2 dP).2.1=(p1.getD p2 dP).2.1/\(p1.getD p2 dP).2.2.1=(p1.getD p2 dP).2.2.1/\(p1.getD p2 dP).2.2.2.1=(p1.getD p2 dP).2.2.2.1/\(p1.getD p2 dP).1=(p1.getD p2 dP).1/\(p1.getD p2 dP).2.1=(p1.getD p2 dP).2.1/\List.reverse (p1.getD p2 dP).2.1=List.reverse (p1.getD p2 dP).2.1/\List.reverse (p1.getD p2 dP).1=List.reverse (p1.getD p2 dP).1/\List.reverse (p1.getD p2 dP).1=List.reverse (p1.getD p2 dP).1/\List.reverse (p1.getD p2 dP).2.1=List.reverse (p1.getD p2 dP).2.1/\(p1.getD p2 dP).2.1=(p1.getD p2 dP).2.1/\(p1.getD p2 dP).1=(p1.getD p2 dP).1/\a=gE (bW (aZ 256 p4)) p0 p2 ((qL p1 p2).getD p3 0)/\True
def v49.q3 (p0:Nat)(p1:List (bn).den)(p2:List (aF).den)(p3:Nat->br)(p4:List (ay×br)):Prop:=cR ((↑p0:Int)+1)/\∃(a:Nat),p1=p1/\(0:Int)=0/\p1=p1/\(↑p1.length:Int)=(↑p1.length:Int)/\p2=p2/\(↑p2.length:Int)=(↑p2.length:Int)/\false=false/\p1=p1/\List.map aT p2=List.map aT p2/\(↑(List.map aT p2).length:Int)=(↑(List.map aT p2).length:Int)/\(↑p0:Int)+1=(↑a:Int)/\p2=p2/\List.map aT p2=List.map aT p2/\jY (aZ 256 p3) (aZ 256 p3)/\p1=p1/\jB (dw p2 (bW (aZ 256 p3)) (p2.length-p1.length-1)) p1 p4=jB (dw p2 (bW (aZ 256 p3)) (p2.length-p1.length-1)) p1 (mo p2 (bW (aZ 256 p3)) p1 a)/\p1=p1/\a<=p2.length/\(p2.length-a)<(p2.length-p0)
def v49.q4 (p0:bY.den)(p1:Prop):Prop:=(0<=p0/\p0<4)/\p1
theorem v49(n:Nat):VM (G49 n) Tryz.f72 [some bY] (D49 (n+1)) 2:=by
 refine acL λa t=>?_;unfold D49;split
 rotate_left
 trivial;rename_i st l ws T;intro hp;obtain⟨h1,h2,hp⟩:=hp;obtain⟨F,rfl⟩:∃F,T=aZ 256 F:=⟨_,h1⟩;subst h2;refine jx (A:=aB ((↑st.length:Int)==(↑l.length:Int)) (1=dw l (bW (aZ 256 F)) (l.length-st.length) st/\l=l/\List.map aT l=List.map aT l/\aZ 256 F=aZ 256 F/\True) ((∃(a:Nat),0=(↑a:Int)/\0=jB (dw l (bW (aZ 256 F)) (l.length-st.length-1)) st (mo l (bW (aZ 256 F)) st a)/\a<=l.length/\(l.length-a)<1000000)/\∀(a:Nat),a<=l.length->aB (decide ((↑a:Int)<(↑(List.map aT l).length:Int))) ((0<=(↑a:Int)/\(↑a:Int)<(↑(List.map aT l).length:Int))/\st.length<=1000/\aB (fA st (↑a:Int)) (v49.q3 a st l F (mo l (bW (aZ 256 F)) st a)) ((∃(x:Nat),((List.map aT l).getD a bj).2.2.2.1=qL l a/\(↑(List.length ((List.map aT l).getD a bj).2.2.2.1):Int)=(↑(qL l a).length:Int)/\0=(↑x:Int)/\jB (dw l (bW (aZ 256 F)) (l.length-st.length-1)) st (mo l (bW (aZ 256 F)) st a)=jB (dw l (bW (aZ 256 F)) (l.length-st.length-1)) st (mo l (bW (aZ 256 F)) st a++rQ l (bW (aZ 256 F)) st a x)/\((List.map aT l).getD a bj).1=(l.getD a dP).1/\((List.map aT l).getD a bj).2.1=(l.getD a dP).2.1/\((List.map aT l).getD a bj).2.2.1=(l.getD a dP).2.2.1/\((List.map aT l).getD a bj).2.2.2.1=(l.getD a dP).2.2.2.1/\((List.map aT l).getD a bj).2.2.2.2.1=(l.getD a dP).1/\((List.map aT l).getD a bj).2.2.2.2.2.1=(l.getD a dP).2.1/\((List.map aT l).getD a bj).2.2.2.2.2.2.1=List.reverse (l.getD a dP).2.1/\((List.map aT l).getD a bj).2.2.2.2.2.2.2.1=List.reverse (l.getD a dP).1/\((List.map aT l).getD a bj).2.2.2.2.2.2.2.2.1=List.reverse (l.getD a dP).1/\((List.map aT l).getD a bj).2.2.2.2.2.2.2.2.2.1=List.reverse (l.getD a dP).2.1/\((List.map aT l).getD a bj).2.2.2.2.2.2.2.2.2.2.1=(l.getD a dP).2.1/\((List.map aT l).getD a bj).2.2.2.2.2.2.2.2.2.2.2.1=(l.getD a dP).1/\x<=(qL l a).length/\((qL l a).length-x)<1000000)/\∀(x:Nat),x<=(qL l a).length->aB (decide ((↑x:Int)<(↑(qL l a).length:Int))) ((0<=(↑x:Int)/\(↑x:Int)<(↑(qL l a).length:Int))/\aB (decide ((↑st.length:Int)>0)) (cR ((↑st.length:Int)-1)/\(0<=(↑st.length:Int)-1/\(↑st.length:Int)-1<(↑st.length:Int))/\v49.q4 (st.getD ((↑st.length:Int)-1).toNat bo).1 (v49.q4 (st.getD ((↑st.length:Int)-1).toNat bo).2.1 ((0<=(↑a:Int)/\(↑a:Int)<4)/\(0<=(qL l a).getD x 0/\(qL l a).getD x 0<4)/\∃(te:List bY.den),(TV.sl (bC.pair (bC.pair (bY.pair (bC.pair (bC.pair (bC.pair (bC.pair (bC.pair (bC.pair (bC.pair (bC.pair (bC.pair TT.unit)))))))))))) (List.map aT l) (Ap.stop false)::aZ 256 F)[Int.toNat ((qL l a).getD x 0)*1+(a*4+(Int.toNat (st.getD ((↑st.length:Int)-1).toNat bo).2.1*16+(Int.toNat (st.getD ((↑st.length:Int)-1).toNat bo).1*64+1)))]? =some (TV.sl bY te Ap.no)/\v49.q2 st l a x F te))) (v49.q2 st l a x F [(0:Int)])/\∀(y:br),y=gE (bW (aZ 256 F)) st a ((qL l a).getD x 0)->aB (decide ((↑y.length:Int)>0)) (((0:Int)<=0/\0<(↑y.length:Int))/\(0<=(↑st.length:Int)/\(↑st.length:Int)=(↑st.length:Int)/\(↑st.length:Int)<=(↑st.length:Int))/\((List.take st.length st).length+1<=1000000000/\((List.take st.length st).length=0\/1≠0))/\aZ 256 F=aZ 256 (bW (aZ 256 F))/\List.map aT l=List.map aT l/\l.length<=3/\(∀(p:(aF).den),p∈l->iA p)/\(∀(j:Nat),(bW (aZ 256 F) j).length<=4352)/\rD l (List.take st.length st++[((↑a:Int),(qL l a).getD x 0,y.getD 0 0,())])/\(List.take st.length st++[((↑a:Int),(qL l a).getD x 0,y.getD 0 0,())]).length<=l.length/\l.length<(List.take st.length st++[((↑a:Int),(qL l a).getD x 0,y.getD 0 0,())]).length+n/\cR ((↑y.length:Int)*dw l (bW (aZ 256 F)) (l.length-(List.take st.length st++[((↑a:Int),(qL l a).getD x 0,y.getD 0 0,())]).length) (List.take st.length st++[((↑a:Int),(qL l a).getD x 0,y.getD 0 0,())]))/\cR (jB (dw l (bW (aZ 256 F)) (l.length-st.length-1)) st (mo l (bW (aZ 256 F)) st a++rQ l (bW (aZ 256 F)) st a x)+(↑y.length:Int)*dw l (bW (aZ 256 F)) (l.length-(List.take st.length st++[((↑a:Int),(qL l a).getD x 0,y.getD 0 0,())]).length) (List.take st.length st++[((↑a:Int),(qL l a).getD x 0,y.getD 0 0,())]))/\v49.q1 x st l a F (jB (dw l (bW (aZ 256 F)) (l.length-st.length-1)) st (mo l (bW (aZ 256 F)) st a++rQ l (bW (aZ 256 F)) st a x)+(↑y.length:Int)*dw l (bW (aZ 256 F)) (l.length-(List.take st.length st++[((↑a:Int),(qL l a).getD x 0,y.getD 0 0,())]).length) (List.take st.length st++[((↑a:Int),(qL l a).getD x 0,y.getD 0 0,())]))) (v49.q1 x st l a F (jB (dw l (bW (aZ 256 F)) (l.length-st.length-1)) st (mo l (bW (aZ 256 F)) st a++rQ l (bW (aZ 256 F)) st a x)))) (v49.q3 a st l F (mo l (bW (aZ 256 F)) st a++rQ l (bW (aZ 256 F)) st a x)))) (jB (dw l (bW (aZ 256 F)) (l.length-st.length-1)) st (mo l (bW (aZ 256 F)) st a)=dw l (bW (aZ 256 F)) (l.length-st.length) st/\l=l/\List.map aT l=List.map aT l/\aZ 256 F=aZ 256 F/\True))) (by kernel_rfl) ?_;unfold v49.q4 v49.q3 v49.q2 v49.q1;obtain⟨h3,hl,hF,hS,hle,hlt,-⟩:=hp;change cP at l;change dp at st;generalize hFF:bW (aZ 256 F)=G at*;have hG:∀j,j<256->G j=F j:=λj hj=>by rw[<-hFF,sw hj]
 simp only[bP,cH,eq_self,true_and,and_true,cR,List.length_map,fR];refine⟨λe=>?_,λe=>?_⟩;rw[show l.length-st.length=0 by omega];rfl
 generalize hr:l.length-st.length-1=r;have xg:l.length-st.length=r+1:=ab
 have bg:∀s,0<=dw l G r s/\dw l G r s<=2727346176:=Mj hl h3 hF ab;have bs:∀i y,i<=3->0<=jB (dw l G r) st (mo l G st i++rQ l G st i y)/\jB (dw l G r) st (mo l G st i++rQ l G st i y)<=189910568927232:=λi y hi=>aft hl h3 hF ab hi;refine⟨⟨0,ab,rfl,ab,ab⟩,λa ha=>⟨λhal=>⟨⟨ab,ab⟩,ab,gZ.2 ⟨λhh=>?_,λhh=>?_⟩⟩,λhal=>?_⟩⟩;refine⟨⟨ab,ab⟩,a+1,ab,jY.refl _,?_,ab,ab⟩;rw[qn,if_pos hh,dW];have oa:iA (l.getD a dP):=dB ab hl;have q4:(qL l a).length<=4:=DO hl;simp only[Px (l:=l) (k:=a) ab,aT,eq_self,true_and];refine⟨⟨0,ab,by rw[Yz,dW],ab,ab⟩,λy hy=>⟨λsY=>?_,λsY=>?_⟩⟩;have sY:y<(qL l a).length:=nP.1 sY;have hq:0<=(qL l a).getD y 0/\(qL l a).getD y 0<=3:=oa.CH _ (dB (P:=λx=>x∈qL l a) sY λ_ h=>h);have ys:=LW (F:=G) (st:=st) sY
 revert ys hq
 generalize(qL l a).getD y 0=q;intro hq ys;refine⟨⟨ab,nP.2 sY⟩,⟨λh0=>?_,λh0=>?_⟩,λs hs=>⟨λhsl=>?_,λhsl=>?_⟩⟩;have hst:0<st.length:=ab
 have e3:((st.length:Int)-1).toNat=st.length-1:=ab
 have hm:st.getD (st.length-1) kU∈st:=dB (P:=λx=>x∈st) ab λ_ h=>h;simp only[e3];have ss:∀q,gE G st a q=G (uE (st.getD (st.length-1) kU).1.toNat (st.getD (st.length-1) kU).2.1.toNat a q.toNat):=λq=>if_neg ab;rw[ss]
 revert hm
 generalize st.getD (st.length-1) kU=x;intro hm;obtain⟨⟨p0,p1⟩,x0,x3⟩:=hS _ hm;have hj:uE x.1.toNat x.2.1.toNat a q.toNat<256:=by unfold uE;omega
 refine⟨⟨ab,ab⟩,⟨ab,ab⟩,⟨p0,Int.lt_of_lt_of_le p1 ab⟩,⟨x0,wE x3⟩,⟨ab,ab⟩,⟨hq.1,ab⟩,F (uE x.1.toNat x.2.1.toNat a q.toNat),JK (a:=λ_=>.no) (by unfold uE;omega) hj,_,rfl,jY.refl _,(hG _ hj).symm⟩;exact⟨_,rfl,jY.refl _,by unfold gE;rw[if_pos ab]⟩;subst hs;have hs0:¬(gE G st a q).length=0:=ab
 have FK:=PC (st:=st) (i:=a) (n:=q) hF;rw[if_neg hs0]at ys;have hlen:(st++[((a:Int),q,(gE G st a q).getD 0 0,())]).length=st.length+1:=ae
 have Iu:l.length-(st.length+1)=r:=ab
 obtain⟨g0,g1⟩:=bg (st++[((a:Int),q,(gE G st a q).getD 0 0,())]);obtain⟨b0,b1⟩:=bs a y ab;have m0:0<=((gE G st a q).length:Int)*dw l G r (st++[((a:Int),q,(gE G st a q).getD 0 0,())]):=Int.mul_nonneg ab g0;have m1:((gE G st a q).length:Int)*dw l G r (st++[((a:Int),q,(gE G st a q).getD 0 0,())])<=4352*2727346176:=Int.mul_le_mul ab g1 g0 ab;have kB:rD l (st++[((a:Int),q,(gE G st a q).getD 0 0,())]):=λx hx=>by rcases eG.1 hx with hx|hx;exact hS x hx;rw[bV]at hx;subst hx;exact⟨⟨by dsimp only;omega,by dsimp only;omega⟩,by dsimp only;omega,by dsimp only;omega⟩
 have ev:jB (dw l G r) st (mo l G st a++rQ l G st a (y+1))=jB (dw l G r) st (mo l G st a++rQ l G st a y)+((gE G st a q).length:Int)*dw l G r (st++[((a:Int),q,(gE G st a q).getD 0 0,())]):=by rw[ys,<-iO,XC,XB]
 simp only[hlen,Iu];exact⟨⟨ab,ab⟩,⟨ab,ab⟩,⟨ab,.inr ab⟩,h1,h3,hl,hF,kB,ab,ab,⟨ab,ab⟩,⟨ab,ab⟩,⟨ab,ab⟩,y+1,ab,jY.refl _,ev.symm,ab,ab⟩;subst hs;rw[if_pos ab,dW]at ys;exact⟨⟨ab,ab⟩,y+1,ab,jY.refl _,by rw[ys],ab,ab⟩;have sY:¬y<(qL l a).length:=λh=>sY (nP.2 h);exact⟨⟨ab,ab⟩,a+1,ab,jY.refl _,by rw[qn,if_neg (by rw[hh];decide),show y=(qL l a).length by omega],ab,ab⟩;rw[xg,dw,show a=l.length by omega]
end Go.Tv
