import Derived.Test.YtedcgbkilmlbhaaPk13
set_option maxRecDepth 100000
namespace Go.Tv
open Go Go.Di Go.Proofs
theorem nF{α:Type}{l:List α}{i:Nat}(d:α)(h:i<l.length):l.take (i+1)=l.take i++[l.getD i d]:=by rw[List.take_succ_eq_append_getElem h,aR,bQ h];rfl
abbrev dP:aW.den:=([],[],0,[],())
def gX(p:aW.den):Prop:=Ok p.1 p.2.1 p.2.2.1 p.2.2.2.1
theorem bX{α:Type}{P:α->Prop}{l:List α}{i:Nat}{d:α}(h:i<l.length)(hl:∀p∈l,P p):P (l.getD i d):=by rw[aR,bQ h];exact hl _ (mB _)
abbrev ax:Type:=Int×Int×Int×Unit
def ct(p q:PD):List ax:=aC p.1 p.2.1 p.2.2.2.1 q.1 q.2.1 q.2.2.2.1 (p.2.2.1+q.2.2.1)
def nY(te:List TV)(i:Nat)(k:Nat->LA):LA:=
 match te.getD i .unk with
 |.val (.int .i64 n)=>k n.toNat
 |_=>.un 0
def aS(p:PD):rW.den:=(p.1,p.2.1,p.2.2.1,p.2.2.2.1,p.1,p.2.1,p.2.1.reverse,p.1.reverse,p.1.reverse,p.2.1.reverse,p.2.1,p.1,())
def adI:List TV->Dn
 |[.sl (.pair (.sl (.int .i64)) (.pair (.sl (.int .i64)) (.pair (.int .i64) (.pair (.sl (.int .i64)) .unit)))) l .no]=>some ([l.length<=1000,∀p∈l,iA p],.res (.sl rW (l.map aS) .no) [] [],
  [(4,.dep λte tS=>.ex Nat λi=>.st {sl:=[(3,.sl rW ((l.take i).map aS) (.kA tS.length)),(8,bI i)],own:=[(70,12)],en:=[i<=l.length],m:=l.length-i})])
 |_=>none
def Q9:fQ:=U2.eV 32 λa=>dS (D50 a)
def TP.q1 (p0:List (aW).den)(p1:Int)(p2 p3:Nat):Prop:=p1=(↑p2:Int)/\p2<=p0.length/\(p0.length-p2)<p3
theorem TP:VI Q9 Try.f48 [some (.sl rW)] adI:=by
 refine gz λa=>?_;unfold adI;split
 rotate_left
 .trivial
 rename_i l;intro hp;refine nS (A:=(∃(a:Nat),[]=List.map aS (List.take a l)/\TP.q1 l (0:Int) a 1000000)/\∀(a:Nat),a<=l.length->aO (decide ((↑a:Int)<(↑l.length:Int))) ((0<=(↑a:Int)/\(↑a:Int)<(↑l.length:Int))/\List.length (l.getD a ([],[],0,[],())).1<=1000/\List.length (l.getD a ([],[],0,[],())).2.1<=1000/\(List.map aS (List.take a l)).length+1<=1000000000/\dQ ((↑a:Int)+1)/\∃(x:Nat),yE rW.den/\List.map aS (List.take a l)++[((l.getD a ([],[],0,[],())).1,(l.getD a ([],[],0,[],())).2.1,(l.getD a ([],[],0,[],())).2.2.1,(l.getD a ([],[],0,[],())).2.2.2.1,(l.getD a ([],[],0,[],())).1,(l.getD a ([],[],0,[],())).2.1,List.reverse (l.getD a ([],[],0,[],())).2.1,List.reverse (l.getD a ([],[],0,[],())).1,List.reverse (l.getD a ([],[],0,[],())).1,List.reverse (l.getD a ([],[],0,[],())).2.1,(l.getD a ([],[],0,[],())).2.1,(l.getD a ([],[],0,[],())).1,())]=List.map aS (List.take x l)/\l=l/\(↑l.length:Int)=(↑l.length:Int)/\TP.q1 l ((↑a:Int)+1) x (l.length-a)) (List.map aS (List.take a l)=List.map aS l/\True)) (by kernel_rfl) ?_;unfold TP.q1;obtain⟨h1,h2,-⟩:=hp;change List PD at l;refine⟨⟨0,rfl,rfl,by omega,by first|omega|(dsimp only;omega)⟩,λi hi=>dz.2 ⟨λhl=>?_,λhl=>⟨by rw[List.take_of_length_le (by omega)],trivial⟩⟩⟩;have sp:iA (l.getD i dP):=bX (by omega) h2;refine⟨⟨by omega,by omega⟩,sp.1,sp.2.1,by rw[List.length_map,List.length_take];omega,⟨by omega,by omega⟩,i+1,iX▸trivial,?_,rfl,rfl,by omega,by omega,by first|omega|(dsimp only;omega)⟩;rw[nF dP (by omega),dW];rfl
def rM:Nat->(Nat->List Int)->(Nat->Ap)->List TV
 |0,_,_=>[]
 |n+1,f,a=>.sl cn (f 0) (a 0)::rM n (λj=>f (j+1)) λj=>a (j+1)
abbrev ox(n:Nat)(f:Nat->List Int)(g:Nat):List TV:=rM n f λj=>.kA (g+j)
abbrev aX(n:Nat)(f:Nat->List Int):List TV:=rM n f λ_=>.no
theorem IQ:∀{n j:Nat}{f:Nat->List Int}{a:Nat->Ap},j<n->(rM n f a)[j]? =some (.sl cn (f j) (a j))
 |n+1,0,f,a,_=>rfl
 |n+1,j+1,f,a,h=>by show(rM n (λj=>f (j+1)) λj=>a (j+1))[j]? =_;exact IQ (f:=λj=>f (j+1)) (a:=λj=>a (j+1)) (by omega)
theorem IP:∀{n:Nat}{f:Nat->List Int}{a:Nat->Ap},(rM n f a).length=n
 |0,_,_=>rfl
 |n+1,f,a=>by show(rM n (λj=>f (j+1)) λj=>a (j+1)).length+1=_;rw[IP]
theorem QC{g:Nat}:∀{l:List TV},(kE g l).length=l.length
 |[]=>rfl
 |a::l=>by rw[kE,dw,dw,QC]
theorem QB{g g':Nat}(h:g<g'):∀{n:Nat}{f:Nat->List Int},kE g (ox n f g')=ox n f g'
 |0,_=>rfl
 |n+1,f=>by show tZ g (.sl cn (f 0) (.kA (g'+0)))::kE g (rM n (λj=>f (j+1)) λj=>.kA (g'+(j+1)))=.sl cn (f 0) (.kA (g'+0))::rM n (λj=>f (j+1)) λj=>.kA (g'+(j+1));rw[tZ,if_neg (by omega)];have:=QB (g:=g) (g':=g'+1) (by omega) (n:=n) (f:=λj=>f (j+1));simp only[ox,fo,mz 1]at this;rw[this]
termination_by n=>n
def QM(f:Nat->List Int)(j:Nat)(x:List Int):Nat->List Int:=λi=>if i=j then x else f i
theorem Po{x:List Int}:∀{n j g:Nat}{f:Nat->List Int},j<n->(kE (g+j) (ox n f g)).set j (.sl cn x (.kA (g+j)))=ox n (QM f j x) g
 |n+1,0,g,f,_=>by show .sl cn x (.kA (g+0))::kE (g+0) (rM n (λj=>f (j+1)) λj=>.kA (g+(j+1)))=.sl cn (QM f 0 x 0) (.kA (g+0))::rM n (λj=>QM f 0 x (j+1)) λj=>.kA (g+(j+1));have:=QB (g:=g) (g':=g+1) (by omega) (n:=n) (f:=λj=>f (j+1));simp only[ox,fo,mz 1]at this;rw[Nat.add_zero,this];simp only[QM,if_true,Nat.add_one_ne_zero,if_false]
 |n+1,j+1,g,f,h=>by have ih:=Po (x:=x) (n:=n) (j:=j) (g:=g+1) (f:=λj=>f (j+1)) (by omega);simp only[ox,fo,mz 1]at ih;show tZ (g+(j+1)) (.sl cn (f 0) (.kA (g+0)))::(kE (g+(j+1)) (rM n (λj=>f (j+1)) λj=>.kA (g+(j+1)))).set j (.sl cn x (.kA (g+(j+1))))=.sl cn (QM f (j+1) x 0) (.kA (g+0))::rM n (λi=>QM f (j+1) x (i+1)) λj=>.kA (g+(j+1));rw[tZ,if_neg (by omega),ih];have e:QM f (j+1) x 0=f 0:=if_neg (by omega);rw[e];congr 1;congr 1;funext i;simp only[QM,Nat.add_right_cancel_iff]
theorem KS{g:Nat}:∀{n:Nat},jW (ox n (λ_=>[]) g) (List.replicate n .au)
 |0=>.nil
 |n+1=>by have ih:=KS (n:=n) (g:=g+1);simp only[ox,fo,mz 1]at ih;exact .au ih
theorem Ll:∀{n:Nat}{f:Nat->List Int}{a:Nat->Ap},(∀j b,a j≠.stop b)->bG [] (rM n f a)=aX n f
 |0,_,_,_=>rfl
 |n+1,f,a,h=>by
  show kz none (.sl cn (f 0) (a 0))::bG [] (rM n (λj=>f (j+1)) λj=>a (j+1))=.sl cn (f 0) .no::aX n λj=>f (j+1);rw[Ll λj b=>h (j+1) b];cases e:a 0 with
  |stop b=>exact(h 0 b e).elim
  |_=>rfl
def tW(i o k u:Nat):Nat:=u+(k*4+(o*16+i*64))
def M4(i k:Nat)(f:Nat->List Int)(s:ax):Nat->List Int:=QM f (tW i s.1.toNat k s.2.1.toNat) (f (tW i s.1.toNat k s.2.1.toNat)++[s.2.2.1])
def OC(l:List PD)(f:Nat->List Int)(i k n:Nat):Nat->List Int:=((ct (l.getD i dP) (l.getD k dP)).take n).foldl (M4 i k) f
def Dk(l:List PD)(f:Nat->List Int)(i k:Nat):Nat->List Int:=(List.range k).foldl (λf k=>if i=k then f else OC l f i k (ct (l.getD i dP) (l.getD k dP)).length) f
def BD(l:List PD)(i:Nat):Nat->List Int:=(List.range i).foldl (λf i=>Dk l f i l.length) λ_=>[]
section
variable {l:List PD} {f:Nat->List Int} {i k n j:Nat}
theorem DT{p:aW.den}(h:gX p):iA p:=Kg h
theorem wz{p q:PD}(h1:gX p)(h2:gX q):(ct p q).length<=272:=Ec h1 h2
theorem A8{p q:PD}(h1:gX p)(h2:gX q){s:ax}(h:s∈ct p q):(0<=s.1/\s.1<=3)/\0<=s.2.1/\s.2.1<=3:=by simp only[ct,aC,nN,dL]at h;obtain⟨a,ha,b,hb,s,-,rfl⟩:=h;exact⟨h1.yw a ha,h2.yw b hb⟩
theorem Xy(d:ax)(h:n<(ct (l.getD i dP) (l.getD k dP)).length):OC l f i k (n+1)=M4 i k (OC l f i k n) ((ct (l.getD i dP) (l.getD k dP)).getD n d):=by rw[OC,OC,nF d h,mE];rfl
theorem Ns(h:i≠k):Dk l f i (k+1)=OC l (Dk l f i k) i k (ct (l.getD i dP) (l.getD k dP)).length:=by rw[Dk,Dk,j4,mE,gu,List.foldl_nil,if_neg h]
theorem Jf(h:i=k):Dk l f i (k+1)=Dk l f i k:=by rw[Dk,Dk,j4,mE,gu,List.foldl_nil,if_pos h]
theorem Es:BD l (i+1)=Dk l (BD l i) i l.length:=by rw[BD,BD,j4,mE];rfl
theorem ZP{x:List Int}{m:Nat}(h:∀j,(f j).length<=m)(hx:x.length<=m+1)(j':Nat):(QM f j x j').length<=m+1:=by
 unfold QM;split
 .exact hx
 have:=h j';omega
theorem LI:∀(ss:List ax){f:Nat->List Int}{m:Nat},(∀j,(f j).length<=m)->∀j,(ss.foldl (M4 i k) f j).length<=m+ss.length
 |[],f,m,h,j=>by simpa using h j
 |s::ss,f,m,h,j=>by have:=LI ss (f:=M4 i k f s) (m:=m+1) (λj=>ZP h (by simp;have:=h (tW i s.1.toNat k s.2.1.toNat);omega) j) j;simp only[gu,dw];omega
theorem P8{m:Nat}(h:∀j,(f j).length<=m)(j:Nat):(OC l f i k n j).length<=m+n:=by have:=LI (i:=i) (k:=k) ((ct (l.getD i dP) (l.getD k dP)).take n) h j;rw[List.length_take]at this;unfold OC;omega
theorem Jg{m:Nat}(hl:∀p∈l,gX p)(hi:i<l.length)(h:∀j,(f j).length<=m):∀(k:Nat),k<=l.length->∀j,(Dk l f i k j).length<=m+k*272
 |0,_,j=>by simpa [Dk]using h j
 |k+1,hk,j=>by
  have ih:=Jg hl hi h k (by omega);have sl:=wz (bX (d:=dP) hi hl) (bX (d:=dP) (show k<l.length by omega) hl);by_cases e:i=k;· rw[Jf e];have:=ih j;omega
  rw[Ns e];have:=P8 (l:=l) (i:=i) (k:=k) (n:=(ct (l.getD i dP) (l.getD k dP)).length) ih j;omega
theorem Jh(hl:∀p∈l,gX p)(h4:l.length<=4):∀(i:Nat),i<=l.length->∀j,(BD l i j).length<=i*1088
 |0,_,j=>by simp[BD]
 |i+1,hi,j=>by have ih:=Jh hl h4 i (by omega);rw[Es];have:=Jg hl (show i<l.length by omega) ih l.length (aj _) j;have:l.length*272<=4*272:=fZ _ h4;omega
theorem OS{d:rW.den}(h:k<l.length):(l.map aS).getD k d=aS (l.getD k dP):=by rw[aR,cR,bQ h,aR,bQ h];rfl
theorem Jp{c:TV}{a:Nat->Ap}{off:Nat}(ho:off=j+1)(hj:j<256):(c::rM 256 f a)[off]? =some (.sl cn (f j) (a j)):=by subst ho;rw[List.getElem?_cons_succ];exact IQ hj
theorem Xc{x:List Int}{g:Nat}(hg:g=1+j)(hj:j<256):jW (ox 256 (QM f j x) 1) (Y9 (kE g (ox 256 f 1)) j (.sl cn x (.kA g))):=by subst hg;unfold Y9;rw[Po hj];exact jW.refl _
end
abbrev Uw(l:List PD):TV:=.sl rW (l.map aS) (.stop true)
def Ul:List TV->Dn
 |[.sl (.pair (.sl (.int .i64)) (.pair (.sl (.int .i64)) (.pair (.int .i64) (.pair (.sl (.int .i64)) .unit)))) l .no]=>some ([l.length<=4,∀p∈l,gX p],.ex (Nat->List Int) λf=>.res .unk (.sl rW (l.map aS) (.stop false)::aX 256 f) [f=BD l l.length],
  [(4,.dep λ_ tS=>.ex Nat λi=>.ex (Nat->List Int) λf=>.st {sl:=[(19,bI i)],pl:=[(0,Uw l::ox 256 f tS.length)],own:=List.replicate 256 (3,1),en:=[i<=l.length,f=BD l i],m:=l.length-i}),
   (10,.dep λte _=>nY te 4 λi=>.ex Nat λk=>.ex (Nat->List Int) λf=>.st {sl:=[(29,bI k)],pl:=[(0,Uw l::ox 256 f 1)],en:=[k<=l.length,f=Dk l (BD l i) i k],m:=l.length-k}),
   (17,.dep λte _=>nY te 4 λi=>nY te 6 λk=>.ex (List ax) λs=>.st {sl:=[(39,.sl bV s .no),(40,bI s.length),(41,bI 0)],en:=[s=ct (l.getD i dP) (l.getD k dP)]}),
   (18,.dep λte _=>nY te 4 λi=>nY te 6 λk=>.ex Nat λn=>.ex (Nat->List Int) λf=>.st {sl:=[(41,bI n)],pl:=[(0,Uw l::ox 256 f 1)],en:=[n<=(ct (l.getD i dP) (l.getD k dP)).length,f=OC l (Dk l (BD l i) i k) i k n],m:=(ct (l.getD i dP) (l.getD k dP)).length-n})])
 |_=>none
noncomputable def P1:fQ:=(T0.eV 48 λa=>dS (adI a)).eV 33 S60
def dR.q1 (p0:bH.den)(p1:Prop):Prop:=p0=p0/\p1
def dR.q2 (p0:List (aW).den)(p1:Nat)(p2:Prop):Prop:=dR.q1 ((List.map aS p0).getD p1 ([],[],0,[],[],[],[],[],[],[],[],[],())).1 (dR.q1 ((List.map aS p0).getD p1 ([],[],0,[],[],[],[],[],[],[],[],[],())).2.1 (((List.map aS p0).getD p1 ([],[],0,[],[],[],[],[],[],[],[],[],())).2.2.1=((List.map aS p0).getD p1 ([],[],0,[],[],[],[],[],[],[],[],[],())).2.2.1/\dR.q1 ((List.map aS p0).getD p1 ([],[],0,[],[],[],[],[],[],[],[],[],())).2.2.2.1 (dR.q1 ((List.map aS p0).getD p1 ([],[],0,[],[],[],[],[],[],[],[],[],())).2.2.2.2.1 (dR.q1 ((List.map aS p0).getD p1 ([],[],0,[],[],[],[],[],[],[],[],[],())).2.2.2.2.2.1 (dR.q1 ((List.map aS p0).getD p1 ([],[],0,[],[],[],[],[],[],[],[],[],())).2.2.2.2.2.2.1 (dR.q1 ((List.map aS p0).getD p1 ([],[],0,[],[],[],[],[],[],[],[],[],())).2.2.2.2.2.2.2.1 (dR.q1 ((List.map aS p0).getD p1 ([],[],0,[],[],[],[],[],[],[],[],[],())).2.2.2.2.2.2.2.2.1 (dR.q1 ((List.map aS p0).getD p1 ([],[],0,[],[],[],[],[],[],[],[],[],())).2.2.2.2.2.2.2.2.2.1 (dR.q1 ((List.map aS p0).getD p1 ([],[],0,[],[],[],[],[],[],[],[],[],())).2.2.2.2.2.2.2.2.2.2.1 (dR.q1 ((List.map aS p0).getD p1 ([],[],0,[],[],[],[],[],[],[],[],[],())).2.2.2.2.2.2.2.2.2.2.2.1 p2))))))))))
def dR.q3 (p0:List (aW).den)(p1:Nat)(p2:Prop):Prop:=((List.map aS p0).getD p1 ([],[],0,[],[],[],[],[],[],[],[],[],())).2.2.2.2.1=((List.map aS p0).getD p1 ([],[],0,[],[],[],[],[],[],[],[],[],())).1/\((List.map aS p0).getD p1 ([],[],0,[],[],[],[],[],[],[],[],[],())).2.2.2.2.2.1=((List.map aS p0).getD p1 ([],[],0,[],[],[],[],[],[],[],[],[],())).2.1/\((List.map aS p0).getD p1 ([],[],0,[],[],[],[],[],[],[],[],[],())).2.2.2.2.2.2.1=List.reverse ((List.map aS p0).getD p1 ([],[],0,[],[],[],[],[],[],[],[],[],())).2.1/\((List.map aS p0).getD p1 ([],[],0,[],[],[],[],[],[],[],[],[],())).2.2.2.2.2.2.2.1=List.reverse ((List.map aS p0).getD p1 ([],[],0,[],[],[],[],[],[],[],[],[],())).1/\((List.map aS p0).getD p1 ([],[],0,[],[],[],[],[],[],[],[],[],())).2.2.2.2.2.2.2.2.1=List.reverse ((List.map aS p0).getD p1 ([],[],0,[],[],[],[],[],[],[],[],[],())).1/\((List.map aS p0).getD p1 ([],[],0,[],[],[],[],[],[],[],[],[],())).2.2.2.2.2.2.2.2.2.1=List.reverse ((List.map aS p0).getD p1 ([],[],0,[],[],[],[],[],[],[],[],[],())).2.1/\((List.map aS p0).getD p1 ([],[],0,[],[],[],[],[],[],[],[],[],())).2.2.2.2.2.2.2.2.2.2.1=((List.map aS p0).getD p1 ([],[],0,[],[],[],[],[],[],[],[],[],())).2.1/\((List.map aS p0).getD p1 ([],[],0,[],[],[],[],[],[],[],[],[],())).2.2.2.2.2.2.2.2.2.2.2.1=((List.map aS p0).getD p1 ([],[],0,[],[],[],[],[],[],[],[],[],())).1/\p2
def dR.q4 (p0:List (aW).den)(p1 p2:Nat)(p3 p4:Nat->List Int)(p5:Nat)(p6:List (Nat×Nat))(p7:Nat):Prop:=p1<=p2/\p3=p4/\(p2-p1)<p7
def dR.q5 (p0:List (aW).den)(p1:Nat)(p2:Prop):Prop:=List.map aS p0=List.map aS p0/\(↑(List.map aS p0).length:Int)=(↑(List.map aS p0).length:Int)/\(↑p1:Int)=(↑p1:Int)/\true=true/\(↑p1:Int)=(↑p1:Int)/\List.map aS p0=List.map aS p0/\p1=p1/\0=0/\p2
def dR.q6 (p0 p1:Nat)(p2:List (aW).den)(p3 p4:Nat->List Int):Prop:=dQ ((↑p0:Int)+1)/\∃(a:Nat),∃(x:Nat->List Int),Value.pointer none=Value.pointer none/\(↑p1:Int)=(↑p1:Int)/\dR.q5 p2 p1 (dR.q2 p2 p1 (List.map aS p2=List.map aS p2/\(↑(List.map aS p2).length:Int)=(↑(List.map aS p2).length:Int)/\(↑p0:Int)+1=(↑a:Int)/\List.map aS p2=List.map aS p2/\jW (ox 256 x 1) (ox 256 p4 1)/\dR.q2 p2 p1 (dR.q4 p2 a p2.length x (Dk p2 (BD p2 p1) p1 a) 29 [] (p2.length-p0))))
def dR.q7 (p0:List (aW).den)(p1:Nat):Prop:=Ok ((List.map aS p0).getD p1 ([],[],0,[],[],[],[],[],[],[],[],[],())).1 ((List.map aS p0).getD p1 ([],[],0,[],[],[],[],[],[],[],[],[],())).2.1 ((List.map aS p0).getD p1 ([],[],0,[],[],[],[],[],[],[],[],[],())).2.2.1 ((List.map aS p0).getD p1 ([],[],0,[],[],[],[],[],[],[],[],[],())).2.2.2.1
def dR.q8 (p0:Nat)(p1:cn.den)(p2:Prop):Prop:=(0<=(↑p0:Int)/\(↑p0:Int)<4)/\(0<=p1/\p1<4)/\p2
def dR.q9 (p0:List (aW).den)(p1:Nat->List Int)(p2:List TV)(p3:Prop):Prop:=List.map aS p0=List.map aS p0/\jW (ox 256 p1 1) p2/\p3
theorem dR:VN P1 Try.f44 [] Ul:=by
 refine abr λa=>?_;unfold Ul;split
 rotate_left
 .trivial
 rename_i l;intro hp;refine nS (A:=l.length<=1000/\(∀(p:(aW).den),p∈l->iA p)/\(∃(a:Nat),∃(r:Nat->List Int),0=(↑a:Int)/\dR.q9 l r [TV.au,TV.au,TV.au,TV.au,TV.au,TV.au,TV.au,TV.au,TV.au,TV.au,TV.au,TV.au,TV.au,TV.au,TV.au,TV.au,TV.au,TV.au,TV.au,TV.au,TV.au,TV.au,TV.au,TV.au,TV.au,TV.au,TV.au,TV.au,TV.au,TV.au,TV.au,TV.au,TV.au,TV.au,TV.au,TV.au,TV.au,TV.au,TV.au,TV.au,TV.au,TV.au,TV.au,TV.au,TV.au,TV.au,TV.au,TV.au,TV.au,TV.au,TV.au,TV.au,TV.au,TV.au,TV.au,TV.au,TV.au,TV.au,TV.au,TV.au,TV.au,TV.au,TV.au,TV.au,TV.au,TV.au,TV.au,TV.au,TV.au,TV.au,TV.au,TV.au,TV.au,TV.au,TV.au,TV.au,TV.au,TV.au,TV.au,TV.au,TV.au,TV.au,TV.au,TV.au,TV.au,TV.au,TV.au,TV.au,TV.au,TV.au,TV.au,TV.au,TV.au,TV.au,TV.au,TV.au,TV.au,TV.au,TV.au,TV.au,TV.au,TV.au,TV.au,TV.au,TV.au,TV.au,TV.au,TV.au,TV.au,TV.au,TV.au,TV.au,TV.au,TV.au,TV.au,TV.au,TV.au,TV.au,TV.au,TV.au,TV.au,TV.au,TV.au,TV.au,TV.au,TV.au,TV.au,TV.au,TV.au,TV.au,TV.au,TV.au,TV.au,TV.au,TV.au,TV.au,TV.au,TV.au,TV.au,TV.au,TV.au,TV.au,TV.au,TV.au,TV.au,TV.au,TV.au,TV.au,TV.au,TV.au,TV.au,TV.au,TV.au,TV.au,TV.au,TV.au,TV.au,TV.au,TV.au,TV.au,TV.au,TV.au,TV.au,TV.au,TV.au,TV.au,TV.au,TV.au,TV.au,TV.au,TV.au,TV.au,TV.au,TV.au,TV.au,TV.au,TV.au,TV.au,TV.au,TV.au,TV.au,TV.au,TV.au,TV.au,TV.au,TV.au,TV.au,TV.au,TV.au,TV.au,TV.au,TV.au,TV.au,TV.au,TV.au,TV.au,TV.au,TV.au,TV.au,TV.au,TV.au,TV.au,TV.au,TV.au,TV.au,TV.au,TV.au,TV.au,TV.au,TV.au,TV.au,TV.au,TV.au,TV.au,TV.au,TV.au,TV.au,TV.au,TV.au,TV.au,TV.au,TV.au,TV.au,TV.au,TV.au,TV.au,TV.au,TV.au,TV.au,TV.au,TV.au,TV.au,TV.au,TV.au,TV.au,TV.au,TV.au,TV.au,TV.au,TV.au,TV.au,TV.au,TV.au,TV.au,TV.au,TV.au,TV.au,TV.au,TV.au,TV.au,TV.au,TV.au,TV.au,TV.au,TV.au,TV.au] (dR.q4 l a l.length r (BD l a) 19 (List.replicate 256 (3,1)) 1000000))/\∀(a:Nat)(r:Nat->List Int),a<=l.length->r=BD l a->aO (decide ((↑a:Int)<(↑(List.map aS l).length:Int))) ((0<=(↑a:Int)/\(↑a:Int)<(↑(List.map aS l).length:Int))/\(∃(y:Nat),∃(v:Nat->List Int),0=(↑y:Int)/\dR.q9 l v (ox 256 r 1) (dR.q4 l y l.length v (Dk l (BD l a) a y) 29 [] 1000000))/\∀(y:Nat)(v:Nat->List Int),y<=l.length->v=Dk l (BD l a) a y->aO (decide ((↑y:Int)<(↑(List.map aS l).length:Int))) ((0<=(↑y:Int)/\(↑y:Int)<(↑(List.map aS l).length:Int))/\aO ((↑a:Int)==(↑y:Int)) (dR.q6 y a l v v) ((dR.q7 l a/\dR.q7 l y/\dR.q3 l a (dR.q3 l y (∃(z:List ax),Value.pointer none=Value.pointer none/\(↑a:Int)=(↑a:Int)/\(↑y:Int)=(↑y:Int)/\dR.q5 l a (dR.q2 l a (dR.q5 l y (dR.q2 l y ((↑a:Int)=(↑a:Int)/\(↑y:Int)=(↑y:Int)/\false=false/\aC ((List.map aS l).getD a ([],[],0,[],[],[],[],[],[],[],[],[],())).1 ((List.map aS l).getD a ([],[],0,[],[],[],[],[],[],[],[],[],())).2.1 ((List.map aS l).getD a ([],[],0,[],[],[],[],[],[],[],[],[],())).2.2.2.1 ((List.map aS l).getD y ([],[],0,[],[],[],[],[],[],[],[],[],())).1 ((List.map aS l).getD y ([],[],0,[],[],[],[],[],[],[],[],[],())).2.1 ((List.map aS l).getD y ([],[],0,[],[],[],[],[],[],[],[],[],())).2.2.2.1 (((List.map aS l).getD a ([],[],0,[],[],[],[],[],[],[],[],[],())).2.2.1+((List.map aS l).getD y ([],[],0,[],[],[],[],[],[],[],[],[],())).2.2.1)=z/\(↑(aC ((List.map aS l).getD a ([],[],0,[],[],[],[],[],[],[],[],[],())).1 ((List.map aS l).getD a ([],[],0,[],[],[],[],[],[],[],[],[],())).2.1 ((List.map aS l).getD a ([],[],0,[],[],[],[],[],[],[],[],[],())).2.2.2.1 ((List.map aS l).getD y ([],[],0,[],[],[],[],[],[],[],[],[],())).1 ((List.map aS l).getD y ([],[],0,[],[],[],[],[],[],[],[],[],())).2.1 ((List.map aS l).getD y ([],[],0,[],[],[],[],[],[],[],[],[],())).2.2.2.1 (((List.map aS l).getD a ([],[],0,[],[],[],[],[],[],[],[],[],())).2.2.1+((List.map aS l).getD y ([],[],0,[],[],[],[],[],[],[],[],[],())).2.2.1)).length:Int)=(↑z.length:Int)/\(0:Int)=0/\dR.q9 l v (ox 256 v 1) (dR.q2 l a (dR.q2 l y (z=ct (l.getD a dP) (l.getD y dP)/\True))))))))))/\∀(z:List ax),z=ct (l.getD a dP) (l.getD y dP)->(∃(u:Nat),∃(w:Nat->List Int),0=(↑u:Int)/\dR.q9 l w (ox 256 v 1) (dR.q4 l u (ct (l.getD a dP) (l.getD y dP)).length w (OC l (Dk l (BD l a) a y) a y u) 41 [] 1000000))/\∀(u:Nat)(w:Nat->List Int),u<=(ct (l.getD a dP) (l.getD y dP)).length->w=OC l (Dk l (BD l a) a y) a y u->aO (decide ((↑u:Int)<(↑z.length:Int))) ((0<=(↑u:Int)/\(↑u:Int)<(↑z.length:Int))/\dR.q8 a (z.getD u (0,0,0,())).1 (dR.q8 y (z.getD u (0,0,0,())).2.1 (∃(te:List cn.den),∃(Q1:Nat),(TV.sl rW (List.map aS l) (Ap.stop true)::ox 256 w 1)[Int.toNat (z.getD u (0,0,0,())).2.1*1+(y*4+(Int.toNat (z.getD u (0,0,0,())).1*16+(a*64+1)))]? =some (TV.sl cn te (Ap.kA Q1))/\(1<=Q1/\Q1<257)/\te.length+1<=1000000000/\dR.q8 a (z.getD u (0,0,0,())).1 (dR.q8 y (z.getD u (0,0,0,())).2.1 (∃(x:Nat),Int.toNat (z.getD u (0,0,0,())).2.1*1+(y*4+(Int.toNat (z.getD u (0,0,0,())).1*16+(a*64+1)))=x+1/\x<(kE Q1 (ox 256 w 1)).length/\dQ ((↑u:Int)+1)/\∃(s:Nat),∃(t:Nat->List Int),Value.pointer none=Value.pointer none/\(↑a:Int)=(↑a:Int)/\(↑y:Int)=(↑y:Int)/\dR.q5 l a (dR.q2 l a (dR.q5 l y (dR.q2 l y ((↑a:Int)=(↑a:Int)/\(↑y:Int)=(↑y:Int)/\false=false/\z=z/\(↑z.length:Int)=(↑z.length:Int)/\(↑u:Int)+1=(↑s:Int)/\dR.q9 l t (Y9 (kE Q1 (ox 256 w 1)) x (TV.sl cn (te++[(z.getD u (0,0,0,())).2.2.1]) (Ap.kA Q1))) (dR.q2 l a (dR.q2 l y (dR.q4 l s (ct (l.getD a dP) (l.getD y dP)).length t (OC l (Dk l (BD l a) a y) a y s) 41 [] ((ct (l.getD a dP) (l.getD y dP)).length-u))))))))))))) (dR.q6 y a l v w))) (dQ ((↑a:Int)+1)/\∃(z:Nat),∃(u:Nat->List Int),Value.pointer none=Value.pointer none/\List.map aS l=List.map aS l/\(↑(List.map aS l).length:Int)=(↑(List.map aS l).length:Int)/\(↑a:Int)+1=(↑z:Int)/\dR.q9 l u (ox 256 v 1) (dR.q4 l z l.length u (BD l z) 19 (List.replicate 256 (3,1)) (l.length-a)))) (∃(a:Nat->List Int),List.map aS l=List.map aS l/\bG [] (ox 256 r 1)=aX 256 a/\a=BD l l.length/\True)) (by kernel_rfl) ?_;unfold dR.q9 dR.q8 dR.q7 dR.q6 dR.q5 dR.q4 dR.q3 dR.q2 dR.q1;obtain⟨h1,h2,-⟩:=hp;change List PD at l;have sh:∀p∈l,iA p:=λp hp=>DT (h2 p hp);simp only[dz,ek,eq_self,true_and,and_true,iX,dQ,List.length_map];refine⟨by omega,sh,⟨0,λ_=>[],by omega,KS (n:=256) (g:=1),by omega,rfl,by omega⟩,λi f hi hf=>⟨λJO=>⟨⟨by omega,by omega⟩,⟨0,f,by omega,jW.refl _,by omega,hf,by omega⟩,λk f1 hk MG=>⟨λrq=>⟨⟨by omega,by omega⟩,λe=>?_,λe=>?_⟩,λrq=>?_⟩⟩,λJO=>?_⟩⟩;· exact⟨⟨by omega,by omega⟩,k+1,f1,by omega,jW.refl _,by omega,(Jf (l:=l) (by omega:i=k)).symm▸MG,by omega⟩
 .have o1:gX (l.getD i dP):=bX (by omega) h2;have o2:gX (l.getD k dP):=bX (by omega) h2;have sl:=wz o1 o2;simp only[OS (l:=l) (k:=i) (by omega),OS (l:=l) (k:=k) (by omega),aS,eq_self,true_and];refine⟨⟨o1,o2,_,rfl,rfl,jW.refl _,rfl⟩,λs hs=>?_⟩;subst hs;refine⟨⟨0,f1,by omega,jW.refl _,by omega,MG,by omega⟩,λn f2 hn Tx=>⟨λCA=>?_,λCA=>?_⟩⟩
  .have CA:n<(ct (l.getD i dP) (l.getD k dP)).length:=fK.1 CA;have hm:(ct (l.getD i dP) (l.getD k dP)).getD n (0,0,0,())∈ct (l.getD i dP) (l.getD k dP):=bX CA λ_ h=>h;have st:=Xy (l:=l) (f:=Dk l (BD l i) i k) (i:=i) (k:=k) (0,0,0,()) CA;have li:=A8 o1 o2 hm;have bl:=P8 (l:=l) (i:=i) (k:=k) (n:=n) (Jg h2 (show i<l.length by omega) (Jh h2 h1 i (by omega)) k (by omega));rw[<-Tx]at st bl
   revert st li
   generalize(ct (l.getD i dP) (l.getD k dP)).getD n (0,0,0,())=s;rintro st ⟨⟨x0,x3⟩,y0,y3⟩;have hj:tW i s.1.toNat k s.2.1.toNat<256:=by unfold tW;omega
   have ho:s.2.1.toNat*1+(k*4+(s.1.toNat*16+(i*64+1)))=tW i s.1.toNat k s.2.1.toNat+1:=by unfold tW;omega
   have b1:=bl (tW i s.1.toNat k s.2.1.toNat);refine⟨⟨by omega,fK.2 CA⟩,⟨by omega,by omega⟩,⟨x0,vX x3⟩,⟨by omega,by omega⟩,⟨y0,vX y3⟩,f2 (tW i s.1.toNat k s.2.1.toNat),1+tW i s.1.toNat k s.2.1.toNat,Jp ho hj,⟨by omega,by omega⟩,by omega,⟨by omega,by omega⟩,⟨x0,vX x3⟩,⟨by omega,by omega⟩,⟨y0,vX y3⟩,tW i s.1.toNat k s.2.1.toNat,ho,?_,⟨by omega,by omega⟩,n+1,_,by omega,Xc rfl hj,by omega,st.symm,by omega⟩;rw[QC,IP];exact hj
  have CA:¬n<(ct (l.getD i dP) (l.getD k dP)).length:=λh=>CA (fK.2 h);refine⟨⟨by omega,by omega⟩,k+1,f2,by omega,jW.refl _,by omega,?_,by omega⟩;rw[Ns (by omega:i≠k),<-show n=(ct (l.getD i dP) (l.getD k dP)).length by omega];exact Tx
 .refine⟨⟨by omega,by omega⟩,i+1,f1,by omega,jW.refl _,by omega,?_,by omega⟩;rw[Es,<-show k=l.length by omega];exact MG
 exact⟨f,Ll (a:=λj=>.kA (1+j)) (λj b e=>nomatch e),by rw[hf,show i=l.length by omega]⟩
end Go.Tv
namespace Go.Tv
open Go Go.Di Go.Proofs
def gE(st:List ax)(x:Int):Bool:=st.any λe=>e.1==x
abbrev gB:ax:=(0,0,0,())
section
variable {l:List PD} {F:Nat->List Int} {st:List ax} {i y:Nat}
theorem XM(h:y<st.length){x:Int}(hx:gE (st.take y) x=false)(hne:¬(st.getD y gB).1=x):gE (st.take (y+1)) x=false:=by rw[nF gB h];unfold gE at hx⊢;rw[List.any_append,hx];simpa using hne
theorem aeO(h:y<st.length){x:Int}(he:(st.getD y gB).1=x):gE st x=true:=by unfold gE;rw[List.any_eq_true];exact⟨_,bX (P:=λe=>e∈st) (d:=gB) h λ_ h=>h,by simpa using he⟩
end
def D70:List TV->List TV->Dn
 |[.agg [.val (.int .i64 a),.val (.int .i64 _),.val (.int .i64 _)],.ptr 0 0],[.val (.int .i64 x)]=>some ([],.res (nW (a==x)) [bI x] [],[])
 |_,_=>none
theorem v70:VC T0 Try.f70 [some .bool] [some cn] D70:=by
 refine mV λa cs=>?_;unfold D70;split
 rotate_left
 .trivial
 rename_i a b c x;intro hp;refine nS (A:=(a==x)=(a==x)/\x=x/\True) (by kernel_rfl) ?_;exact⟨rfl,rfl,trivial⟩
def K2:fQ:=T0.oz 70 λa c=>dS (D70 a c)
def Zf(st:List ax)(x:Int)(r:Int):Prop:=(r=-1/\gE st x=false)\/(0<=r/\gE st x=true)
def adE:List TV->List TV->Dn
 |[.sl (.pair (.int .i64) (.pair (.int .i64) (.pair (.int .i64) .unit))) l .no,.fn 70 [] [.ptr 0 0]],[.val (.int .i64 x)]=>some ([l.length<=1000],.ex Int λr=>.res (bI r) [bI x] [Zf l x r],[(3,.ex Nat λi=>.st {sl:=[(8,bI i)],en:=[i<=l.length,gE (l.take i) x=false],m:=l.length-i})])
 |_,_=>none
theorem ahj:VC K2 Try.f81 [some cn] [some cn] adE:=by
 refine mV λa cs=>?_;unfold adE;split
 rotate_left
 .trivial
 rename_i l x;intro hp;change List ax at l;refine nS (A:=(∃(a:Nat),0=(↑a:Int)/\a<=l.length/\gE (List.take a l) x=false/\(l.length-a)<1000000)/\∀(a:Nat),a<=l.length->gE (List.take a l) x=false->aO (decide ((↑a:Int)<(↑l.length:Int))) ((0<=(↑a:Int)/\(↑a:Int)<(↑l.length:Int))/\aO ((l.getD a (0,0,0,())).1==x) (∃(y:Int),(↑a:Int)=y/\x=x/\Zf l x y/\True) (dQ ((↑a:Int)+1)/\∃(y:Nat),l=l/\(↑l.length:Int)=(↑l.length:Int)/\(↑a:Int)+1=(↑y:Int)/\x=x/\y<=l.length/\gE (List.take y l) x=false/\(l.length-y)<(l.length-a))) (∃(a:Int),(-1:Int)=a/\x=x/\Zf l x a/\True)) (by kernel_rfl) ?_;have h1:=hp.1;simp only[dz,ek,eq_self,true_and,and_true,dQ];refine⟨⟨0,rfl,by omega,rfl,by omega⟩,λi hi hh=>⟨λhl=>⟨⟨by omega,by omega⟩,λe=>⟨_,rfl,.inr ⟨by omega,aeO (by omega) e⟩⟩,λe=>⟨⟨by omega,by omega⟩,i+1,by omega,by omega,XM (by omega) hh e,by omega⟩⟩,λhl=>⟨_,rfl,.inl ⟨rfl,by rw[<-List.take_of_length_le (l:=l) (i:=i) (by omega)];exact hh⟩⟩⟩⟩
def K3:fQ:=K2.oz 81 λa c=>dS (adE a c)
def D69:List TV->List TV->Dn
 |[.sl (.pair (.int .i64) (.pair (.int .i64) (.pair (.int .i64) .unit))) l .no,.fn 70 [] [.ptr 0 0]],[.val (.int .i64 x)]=>some ([l.length<=1000],.res (nW (gE l x)) [bI x] [],[])
 |_,_=>none
theorem v69:VC K3 Try.f69 [some .bool] [some cn] D69:=by
 refine mV λa cs=>?_;unfold D69;split
 rotate_left
 .trivial
 rename_i l x;intro hp;change List ax at l;refine nS (A:=l.length<=1000/\∀(a:Int),Zf l x a->decide (a>=0)=gE l x/\x=x/\True) (by kernel_rfl) ?_;refine⟨hp.1,λr hr=>⟨?_,rfl,trivial⟩⟩;rcases hr with ⟨rfl,h⟩|⟨h0,h⟩;· rw[h];rfl
 rw[h];simpa using h0
abbrev qL(l:List PD)(i:Nat):List Int:=(l.getD i dP).2.2.2.1
def bO(T:List TV)(j:Nat):List Int:=
 match T[j]? with
 |some (.sl (.int .i64) x _)=>x
 |_=>[]
def lqp(F:Nat->List Int)(st:List ax)(i:Nat)(n:Int):List Int:=if st.length=0 then[0]else F (tW (st.getD (st.length-1) gB).1.toNat (st.getD (st.length-1) gB).2.1.toNat i n.toNat)
def J5(F:Nat->List Int)(st:List ax)(i:Nat)(n:Int):Option (ax×List Int):=if(lqp F st i n).length=0 then none else some (((i:Int),n,(lqp F st i n).getD 0 0,()),lqp F st i n)
def qu(l:List PD)(F:Nat->List Int)(st:List ax)(i y:Nat):List (ax×List Int):=((qL l i).take y).filterMap (J5 F st i)
def kL(l:List PD)(F:Nat->List Int)(st:List ax)(i:Nat):List (ax×List Int):=(List.range i).flatMap λ(i:Nat)=>if gE st (i:Int)then[]else qu l F st i (qL l i).length
def jA(g:List ax->Int)(st:List ax)(ns:List (ax×List Int)):Int:=(ns.map λp=>(p.2.length:Int)*g (st++[p.1])).sum
def di(l:List PD)(F:Nat->List Int):Nat->List ax->Int
 |0,_=>1
 |r+1,st=>jA (di l F r) st (kL l F st l.length)
def nD(l:List PD)(st:List ax):Prop:=∀x∈st,(0<=x.1/\x.1<(l.length:Int))/\0<=x.2.1/\x.2.1<=3
abbrev wkC(p:PD):List TV:=[.sl cn p.1 .no,.sl cn p.2.1 .no,bI p.2.2.1,.sl cn p.2.2.2.1 .no,.sl cn p.1 .no,.sl cn p.2.1 .no,.sl cn p.2.1.reverse .no,.sl cn p.1.reverse .no,.sl cn p.1.reverse .no,.sl cn p.2.1.reverse .no,.sl cn p.2.1 .no,.sl cn p.1 .no]
def Un(tS:List TB)(k:List PD->(Nat->List Int)->List ax->LA):LA:=
 match tS with
 |.cells [.sl (.pair (.sl (.int .i64)) (.pair (.sl (.int .i64)) (.pair (.int .i64) (.pair (.sl (.int .i64)) .unit)))) l _]::_::_::.cells (_::T)::.cells [.sl (.pair (.int .i64) (.pair (.int .i64) (.pair (.int .i64) .unit))) st _]::_=>k l (bO T) st
 |_=>.un 0
def J68:List (Nat×LA):=
 [(1,.dep λ_ tS=>Un tS λl F st=>.ex Nat λi=>.st {sl:=[(15,bI i)],pl:=[(5,[bI (jA (di l F (l.length-st.length-1)) st (kL l F st i))])],en:=[i<=l.length],m:=l.length-i}),
  (9,.dep λte tS=>Un tS λl F st=>nY te 15 λi=>.ex Nat λy=>.st {sl:=[(19,.unk),(25,.sl cn (qL l i) .no),(26,bI (qL l i).length),(27,bI y)],pl:=[(5,[bI (jA (di l F (l.length-st.length-1)) st (kL l F st i++qu l F st i y))]),(10,wkC (l.getD i dP))],en:=[y<=(qL l i).length],m:=(qL l i).length-y}),
  (15,.dep λte tS=>Un tS λl F st=>nY te 15 λi=>nY te 27 λy=>.ex (List Int) λs=>.st {sl:=[(8,.sl cn s .no)],en:=[s=lqp F st i ((qL l i).getD y 0)]})]
def D49(n:Nat):List TV->List (List TV)->Dn
 |[.sl (.pair (.int .i64) (.pair (.int .i64) (.pair (.int .i64) .unit))) st .no,.ptr 0 0,.ptr 1 0,.ptr 2 0],[[.sl (.pair (.sl (.int .i64)) (.pair (.sl (.int .i64)) (.pair (.int .i64) (.pair (.sl (.int .i64)) .unit)))) l .no],[.ptr 3 0],[.fn 49 [] [.ptr 0 0,.ptr 1 0,.ptr 2 0]],.sl (.pair (.sl (.int .i64)) (.pair (.sl (.int .i64)) (.pair (.int .i64) (.pair (.sl (.int .i64)) (.pair (.sl (.int .i64)) (.pair (.sl (.int .i64)) (.pair (.sl (.int .i64)) (.pair (.sl (.int .i64)) (.pair (.sl (.int .i64)) (.pair (.sl (.int .i64)) (.pair (.sl (.int .i64)) (.pair (.sl (.int .i64)) .unit)))))))))))) ws (.stop false)::T]=>
  some ([T=aX 256 (bO T),ws=l.map aS,l.length<=3,∀p∈l,gX p,∀j,(bO T j).length<=4352,nD l st,st.length<=l.length,l.length<st.length+n],
   .res (bI (di l (bO T) (l.length-st.length) st)) [.agg [.sl aW l .no],.agg [.ptr 3 0],.agg [.fn 49 [] [.ptr 0 0,.ptr 1 0,.ptr 2 0]],.agg (.sl rW ws (.stop false)::T)] [],[])
 |_,_=>none
section
variable {l:List PD} {F:Nat->List Int} {st:List ax} {i y:Nat}
theorem rZ{j:Nat}(h:j<256):bO (aX 256 F) j=F j:=by unfold bO;rw[IQ h]
theorem qh:kL l F st (i+1)=kL l F st i++(if gE st (i:Int)then[]else qu l F st i (qL l i).length):=by unfold kL;rw[j4,List.flatMap_append];simp
theorem Lk(h:y<(qL l i).length):qu l F st i (y+1)=qu l F st i y++(if(lqp F st i ((qL l i).getD y 0)).length=0 then[]else[(((i:Int),(qL l i).getD y 0,(lqp F st i ((qL l i).getD y 0)).getD 0 0,()),lqp F st i ((qL l i).getD y 0))]):=by
 unfold qu;rw[nF 0 h,List.filterMap_append];congr 1;unfold J5;by_cases e:(lqp F st i ((qL l i).getD y 0)).length=0;· rw[List.filterMap_cons,if_pos e,if_pos e];rfl
 rw[List.filterMap_cons,if_neg e,if_neg e];rfl
theorem Xr:qu l F st i 0=[]:=rfl
theorem Wn{g:List ax->Int}{a b:List (ax×List Int)}:jA g st (a++b)=jA g st a+jA g st b:=by unfold jA;rw[dW,List.sum_append]
theorem Wm{g:List ax->Int}{p:ax×List Int}:jA g st [p]=(p.2.length:Int)*g (st++[p.1]):=by simp[jA]
theorem IU{g:List ax->Int}{m:Int}(hg:∀s,0<=g s/\g s<=m):∀(ns:List (ax×List Int)),(∀p∈ns,p.2.length<=4352)->0<=jA g st ns/\jA g st ns<=(ns.length:Int)*(4352*m)
 |[],_=>by simp[jA]
 |p::ns,h=>by
  have ih:=IU hg ns λq hq=>h q (by simp[hq]);have hp:=h p (by simp);obtain⟨g0,g1⟩:=hg (st++[p.1]);have e:jA g st (p::ns)=(p.2.length:Int)*g (st++[p.1])+jA g st ns:=by simp[jA]
  have h1:(p.2.length:Int)*g (st++[p.1])<=4352*m:=Int.mul_le_mul (by omega) g1 g0 (by omega);have h2:0<=(p.2.length:Int)*g (st++[p.1]):=Int.mul_nonneg (by omega) g0;rw[e,dw]
  push_cast
  rw[Int.add_mul];omega
theorem OY(hF:∀j,(F j).length<=4352){n:Int}:(lqp F st i n).length<=4352:=by
 unfold lqp;split
 .simp
 exact hF _
theorem PZ{p:ax×List Int}(h:p∈qu l F st i y):∃n∈qL l i,p=(((i:Int),n,(lqp F st i n).getD 0 0,()),lqp F st i n):=by
 unfold qu at h;rw[zu]at h;obtain⟨n,hn,h1⟩:=h;unfold J5 at h1;split at h1;· cases h1
 cases h1;exact⟨n,vY hn,rfl⟩
theorem yZ{p:ax×List Int}(h:p∈kL l F st i):∃k<i,gE st (k:Int)=false/\∃n∈qL l k,p=(((k:Int),n,(lqp F st k n).getD 0 0,()),lqp F st k n):=by
 unfold kL at h;rw[nN]at h;obtain⟨k,hk,h1⟩:=h;rw[o5]at hk;split at h1;· cases h1
 rename_i hn;exact⟨k,hk,by simpa using hn,PZ h1⟩
theorem P0:(qu l F st i y).length<=(qL l i).length:=by unfold qu;refine bp (List.length_filterMap_le ..) ?_;rw[List.length_take];omega
theorem Gk(hl:∀p∈l,gX p):(qL l i).length<=4:=by
 by_cases h:i<l.length;· exact q_len (bX (P:=gX) (d:=dP) h hl)
 unfold qL;rw[aR,fu (by omega)];simp
theorem Jd(hl:∀p∈l,gX p):∀i,(kL l F st i).length<=i*4
 |0=>by simp[kL]
 |i+1=>by
  have ih:=Jd hl i;rw[qh,cD];have:(if gE st (i:Int)then[]else qu l F st i (qL l i).length).length<=4:=by
   split;· simp
   exact bp P0 (Gk hl)
  omega
theorem agj(hF:∀j,(F j).length<=4352){p:ax×List Int}(h:p∈kL l F st i++qu l F st i y):p.2.length<=4352:=by
 rcases dX.1 h with h|h;· obtain⟨k,-,-,n,-,rfl⟩:=yZ h;exact OY hF
 obtain⟨n,-,rfl⟩:=PZ h;exact OY hF
theorem Qm(hl:∀p∈l,gX p)(h3:l.length<=3)(hF:∀j,(F j).length<=4352):∀(r:Nat)(st:List ax),0<=di l F r st/\di l F r st<=52224^r
 |0,st=>by simp[di]
 |r+1,st=>by
  have ih:=Qm hl h3 hF r;have:=IU (st:=st) (g:=di l F r) (m:=52224^r) ih (kL l F st l.length) λp hp=>by obtain⟨k,-,-,n,-,rfl⟩:=yZ hp;exact OY hF
  have hn:=Jd (F:=F) (st:=st) hl l.length;have hp:(0:Int)<=4352*52224^r:=Int.mul_nonneg (by omega) (Int.pow_nonneg (by omega));have h1:((kL l F st l.length).length:Int)*(4352*52224^r)<=12*(4352*52224^r):=Dh (by omega) hp;rw[di];refine⟨this.1,oZ this.2 (oZ h1 ?_)⟩;rw[Int.pow_succ];omega
theorem LG(hl:∀p∈l,gX p)(h3:l.length<=3)(hF:∀j,(F j).length<=4352){r:Nat}(hr:r<=2)(st:List ax):0<=di l F r st/\di l F r st<=2727346176:=by
 have h:=Qm hl h3 hF r st;refine⟨h.1,oZ h.2 ?_⟩;have:r=0\/r=1\/r=2:=by omega
 rcases this with rfl|rfl|rfl<;>decide
theorem aeb(hl:∀p∈l,gX p)(h3:l.length<=3)(hF:∀j,(F j).length<=4352){r:Nat}(hr:r<=2)(hi:i<=3):0<=jA (di l F r) st (kL l F st i++qu l F st i y)/\jA (di l F r) st (kL l F st i++qu l F st i y)<=189910568927232:=by have h:=IU (st:=st) (g:=di l F r) (m:=2727346176) (LG hl h3 hF hr) (kL l F st i++qu l F st i y) λp hp=>agj hF hp;have h1:=Jd (F:=F) (st:=st) hl i;have h2:=P0 (l:=l) (F:=F) (st:=st) (i:=i) (y:=y);have h4:=Gk (i:=i) hl;rw[cD]at h;omega
end
noncomputable def G49 (n:Nat):fQ:=((((K3.oz 69 λa c=>dS (D69 a c)).Dz 47 Try.f47 []).Dz 68 Try.f68 J68).DC 49 λa t=>dS (D49 n a t)).own 49 Try.f49
def v49.q1 (p0:Nat)(p1:List (bV).den)(p2:List (aW).den)(p3:Nat)(p4:Nat->List Int)(p5:Int):Prop:=dQ ((↑p0:Int)+1)/\∃(a:Nat),p1=p1/\(0:Int)=0/\p1=p1/\(↑p1.length:Int)=(↑p1.length:Int)/\p2=p2/\(↑p2.length:Int)=(↑p2.length:Int)/\false=false/\p1=p1/\List.map aS p2=List.map aS p2/\(↑(List.map aS p2).length:Int)=(↑(List.map aS p2).length:Int)/\(↑p3:Int)=(↑p3:Int)/\true=true/\(↑p3:Int)=(↑p3:Int)/\List.map aS p2=List.map aS p2/\p3=p3/\0=0/\p1=p1/\false=false/\qL p2 p3=qL p2 p3/\(↑(qL p2 p3).length:Int)=(↑(qL p2 p3).length:Int)/\(↑p0:Int)+1=(↑a:Int)/\p2=p2/\List.map aS p2=List.map aS p2/\jW (aX 256 p4) (aX 256 p4)/\p1=p1/\p5=jA (di p2 (bO (aX 256 p4)) (p2.length-p1.length-1)) p1 (kL p2 (bO (aX 256 p4)) p1 p3++qu p2 (bO (aX 256 p4)) p1 p3 a)/\p1=p1/\(↑p3:Int)=(↑p3:Int)/\(p2.getD p3 dP).1=(p2.getD p3 dP).1/\(p2.getD p3 dP).2.1=(p2.getD p3 dP).2.1/\(p2.getD p3 dP).2.2.1=(p2.getD p3 dP).2.2.1/\(p2.getD p3 dP).2.2.2.1=(p2.getD p3 dP).2.2.2.1/\(p2.getD p3 dP).1=(p2.getD p3 dP).1/\(p2.getD p3 dP).2.1=(p2.getD p3 dP).2.1/\List.reverse (p2.getD p3 dP).2.1=List.reverse (p2.getD p3 dP).2.1/\List.reverse (p2.getD p3 dP).1=List.reverse (p2.getD p3 dP).1/\List.reverse (p2.getD p3 dP).1=List.reverse (p2.getD p3 dP).1/\List.reverse (p2.getD p3 dP).2.1=List.reverse (p2.getD p3 dP).2.1/\(p2.getD p3 dP).2.1=(p2.getD p3 dP).2.1/\(p2.getD p3 dP).1=(p2.getD p3 dP).1/\a<=(qL p2 p3).length/\((qL p2 p3).length-a)<((qL p2 p3).length-p0)
def v49.q2 (p0:List (bV).den)(p1:List (aW).den)(p2 p3:Nat)(p4:Nat->List Int)(p5:List cn.den):Prop:=∃(a:List Int),p0=p0/\(0:Int)=0/\p0=p0/\(↑p0.length:Int)=(↑p0.length:Int)/\p1=p1/\(↑p1.length:Int)=(↑p1.length:Int)/\false=false/\p0=p0/\(qL p1 p2).getD p3 0=(qL p1 p2).getD p3 0/\p5=a/\List.map aS p1=List.map aS p1/\(↑(List.map aS p1).length:Int)=(↑(List.map aS p1).length:Int)/\(↑p2:Int)=(↑p2:Int)/\true=true/\(↑p2:Int)=(↑p2:Int)/\List.map aS p1=List.map aS p1/\p2=p2/\0=0/\p0=p0/\false=false/\qL p1 p2=qL p1 p2/\(↑(qL p1 p2).length:Int)=(↑(qL p1 p2).length:Int)/\(↑p3:Int)=(↑p3:Int)/\true=true/\qL p1 p2=qL p1 p2/\p3=p3/\0=0/\(qL p1 p2).getD p3 0=(qL p1 p2).getD p3 0/\[(0:Int)]=[(0:Int)]/\p1=p1/\List.map aS p1=List.map aS p1/\jW (aX 256 p4) (aX 256 p4)/\p0=p0/\jA (di p1 (bO (aX 256 p4)) (p1.length-p0.length-1)) p0 (kL p1 (bO (aX 256 p4)) p0 p2++qu p1 (bO (aX 256 p4)) p0 p2 p3)=jA (di p1 (bO (aX 256 p4)) (p1.length-p0.length-1)) p0 (kL p1 (bO (aX 256 p4)) p0 p2++qu p1 (bO (aX 256 p4)) p0 p2 p3)/\p0=p0/\(↑p2:Int)=(↑p2:Int)/\(p1.getD p2 dP).1=(p1.getD p2 dP).1/\(p1.getD p2 dP).2.1=(p1.getD p2 dP).2.1/\(p1.getD p2 dP).2.2.1=(p1.getD p2 dP).2.2.1/\(p1.getD p2 dP).2.2.2.1=(p1.getD p2 dP).2.2.2.1/\(p1.getD p2 dP).1=(p1.getD p2 dP).1/\(p1.getD p2 dP).2.1=(p1.getD p2 dP).2.1/\List.reverse (p1.getD p2 dP).2.1=List.reverse (p1.getD p2 dP).2.1/\List.reverse (p1.getD p2 dP).1=List.reverse (p1.getD p2 dP).1/\List.reverse (p1.getD p2 dP).1=List.reverse (p1.getD p2 dP).1/\List.reverse (p1.getD p2 dP).2.1=List.reverse (p1.getD p2 dP).2.1/\(p1.getD p2 dP).2.1=(p1.getD p2 dP).2.1/\(p1.getD p2 dP).1=(p1.getD p2 dP).1/\a=lqp (bO (aX 256 p4)) p0 p2 ((qL p1 p2).getD p3 0)/\True
def v49.q3 (p0:Nat)(p1:List (bV).den)(p2:List (aW).den)(p3:Nat->List Int)(p4:List (ax×List Int)):Prop:=dQ ((↑p0:Int)+1)/\∃(a:Nat),p1=p1/\(0:Int)=0/\p1=p1/\(↑p1.length:Int)=(↑p1.length:Int)/\p2=p2/\(↑p2.length:Int)=(↑p2.length:Int)/\false=false/\p1=p1/\List.map aS p2=List.map aS p2/\(↑(List.map aS p2).length:Int)=(↑(List.map aS p2).length:Int)/\(↑p0:Int)+1=(↑a:Int)/\p2=p2/\List.map aS p2=List.map aS p2/\jW (aX 256 p3) (aX 256 p3)/\p1=p1/\jA (di p2 (bO (aX 256 p3)) (p2.length-p1.length-1)) p1 p4=jA (di p2 (bO (aX 256 p3)) (p2.length-p1.length-1)) p1 (kL p2 (bO (aX 256 p3)) p1 a)/\p1=p1/\a<=p2.length/\(p2.length-a)<(p2.length-p0)
def v49.q4 (p0:cn.den)(p1:Prop):Prop:=(0<=p0/\p0<4)/\p1
theorem v49(n:Nat):VM (G49 n) Try.f49 [some cn] (D49 (n+1)) 2:=by
 refine Uo λa t=>?_;unfold D49;split
 rotate_left
 .trivial
 rename_i st l ws T;intro hp;obtain⟨h1,h2,hp⟩:=hp;obtain⟨F,rfl⟩:∃F,T=aX 256 F:=⟨_,h1⟩;subst h2;refine nS (A:=aO ((↑st.length:Int)==(↑l.length:Int)) (1=di l (bO (aX 256 F)) (l.length-st.length) st/\l=l/\List.map aS l=List.map aS l/\aX 256 F=aX 256 F/\True) ((∃(a:Nat),0=(↑a:Int)/\0=jA (di l (bO (aX 256 F)) (l.length-st.length-1)) st (kL l (bO (aX 256 F)) st a)/\a<=l.length/\(l.length-a)<1000000)/\∀(a:Nat),a<=l.length->aO (decide ((↑a:Int)<(↑(List.map aS l).length:Int))) ((0<=(↑a:Int)/\(↑a:Int)<(↑(List.map aS l).length:Int))/\st.length<=1000/\aO (gE st (↑a:Int)) (v49.q3 a st l F (kL l (bO (aX 256 F)) st a)) ((∃(x:Nat),((List.map aS l).getD a ([],[],0,[],[],[],[],[],[],[],[],[],())).2.2.2.1=qL l a/\(↑(List.length ((List.map aS l).getD a ([],[],0,[],[],[],[],[],[],[],[],[],())).2.2.2.1):Int)=(↑(qL l a).length:Int)/\0=(↑x:Int)/\jA (di l (bO (aX 256 F)) (l.length-st.length-1)) st (kL l (bO (aX 256 F)) st a)=jA (di l (bO (aX 256 F)) (l.length-st.length-1)) st (kL l (bO (aX 256 F)) st a++qu l (bO (aX 256 F)) st a x)/\((List.map aS l).getD a ([],[],0,[],[],[],[],[],[],[],[],[],())).1=(l.getD a dP).1/\((List.map aS l).getD a ([],[],0,[],[],[],[],[],[],[],[],[],())).2.1=(l.getD a dP).2.1/\((List.map aS l).getD a ([],[],0,[],[],[],[],[],[],[],[],[],())).2.2.1=(l.getD a dP).2.2.1/\((List.map aS l).getD a ([],[],0,[],[],[],[],[],[],[],[],[],())).2.2.2.1=(l.getD a dP).2.2.2.1/\((List.map aS l).getD a ([],[],0,[],[],[],[],[],[],[],[],[],())).2.2.2.2.1=(l.getD a dP).1/\((List.map aS l).getD a ([],[],0,[],[],[],[],[],[],[],[],[],())).2.2.2.2.2.1=(l.getD a dP).2.1/\((List.map aS l).getD a ([],[],0,[],[],[],[],[],[],[],[],[],())).2.2.2.2.2.2.1=List.reverse (l.getD a dP).2.1/\((List.map aS l).getD a ([],[],0,[],[],[],[],[],[],[],[],[],())).2.2.2.2.2.2.2.1=List.reverse (l.getD a dP).1/\((List.map aS l).getD a ([],[],0,[],[],[],[],[],[],[],[],[],())).2.2.2.2.2.2.2.2.1=List.reverse (l.getD a dP).1/\((List.map aS l).getD a ([],[],0,[],[],[],[],[],[],[],[],[],())).2.2.2.2.2.2.2.2.2.1=List.reverse (l.getD a dP).2.1/\((List.map aS l).getD a ([],[],0,[],[],[],[],[],[],[],[],[],())).2.2.2.2.2.2.2.2.2.2.1=(l.getD a dP).2.1/\((List.map aS l).getD a ([],[],0,[],[],[],[],[],[],[],[],[],())).2.2.2.2.2.2.2.2.2.2.2.1=(l.getD a dP).1/\x<=(qL l a).length/\((qL l a).length-x)<1000000)/\∀(x:Nat),x<=(qL l a).length->aO (decide ((↑x:Int)<(↑(qL l a).length:Int))) ((0<=(↑x:Int)/\(↑x:Int)<(↑(qL l a).length:Int))/\aO (decide ((↑st.length:Int)>0)) (dQ ((↑st.length:Int)-1)/\(0<=(↑st.length:Int)-1/\(↑st.length:Int)-1<(↑st.length:Int))/\v49.q4 (st.getD ((↑st.length:Int)-1).toNat (0,0,0,())).1 (v49.q4 (st.getD ((↑st.length:Int)-1).toNat (0,0,0,())).2.1 ((0<=(↑a:Int)/\(↑a:Int)<4)/\(0<=(qL l a).getD x 0/\(qL l a).getD x 0<4)/\∃(te:List cn.den),(TV.sl (bH.pair (bH.pair (cn.pair (bH.pair (bH.pair (bH.pair (bH.pair (bH.pair (bH.pair (bH.pair (bH.pair (bH.pair TT.unit)))))))))))) (List.map aS l) (Ap.stop false)::aX 256 F)[Int.toNat ((qL l a).getD x 0)*1+(a*4+(Int.toNat (st.getD ((↑st.length:Int)-1).toNat (0,0,0,())).2.1*16+(Int.toNat (st.getD ((↑st.length:Int)-1).toNat (0,0,0,())).1*64+1)))]? =some (TV.sl cn te Ap.no)/\v49.q2 st l a x F te))) (v49.q2 st l a x F [(0:Int)])/\∀(y:List Int),y=lqp (bO (aX 256 F)) st a ((qL l a).getD x 0)->aO (decide ((↑y.length:Int)>0)) (((0:Int)<=0/\0<(↑y.length:Int))/\(0<=(↑st.length:Int)/\(↑st.length:Int)=(↑st.length:Int)/\(↑st.length:Int)<=(↑st.length:Int))/\((List.take st.length st).length+1<=1000000000/\((List.take st.length st).length=0\/1≠0))/\aX 256 F=aX 256 (bO (aX 256 F))/\List.map aS l=List.map aS l/\l.length<=3/\(∀(p:(aW).den),p∈l->gX p)/\(∀(j:Nat),(bO (aX 256 F) j).length<=4352)/\nD l (List.take st.length st++[((↑a:Int),(qL l a).getD x 0,y.getD 0 0,())])/\(List.take st.length st++[((↑a:Int),(qL l a).getD x 0,y.getD 0 0,())]).length<=l.length/\l.length<(List.take st.length st++[((↑a:Int),(qL l a).getD x 0,y.getD 0 0,())]).length+n/\dQ ((↑y.length:Int)*di l (bO (aX 256 F)) (l.length-(List.take st.length st++[((↑a:Int),(qL l a).getD x 0,y.getD 0 0,())]).length) (List.take st.length st++[((↑a:Int),(qL l a).getD x 0,y.getD 0 0,())]))/\dQ (jA (di l (bO (aX 256 F)) (l.length-st.length-1)) st (kL l (bO (aX 256 F)) st a++qu l (bO (aX 256 F)) st a x)+(↑y.length:Int)*di l (bO (aX 256 F)) (l.length-(List.take st.length st++[((↑a:Int),(qL l a).getD x 0,y.getD 0 0,())]).length) (List.take st.length st++[((↑a:Int),(qL l a).getD x 0,y.getD 0 0,())]))/\v49.q1 x st l a F (jA (di l (bO (aX 256 F)) (l.length-st.length-1)) st (kL l (bO (aX 256 F)) st a++qu l (bO (aX 256 F)) st a x)+(↑y.length:Int)*di l (bO (aX 256 F)) (l.length-(List.take st.length st++[((↑a:Int),(qL l a).getD x 0,y.getD 0 0,())]).length) (List.take st.length st++[((↑a:Int),(qL l a).getD x 0,y.getD 0 0,())]))) (v49.q1 x st l a F (jA (di l (bO (aX 256 F)) (l.length-st.length-1)) st (kL l (bO (aX 256 F)) st a++qu l (bO (aX 256 F)) st a x)))) (v49.q3 a st l F (kL l (bO (aX 256 F)) st a++qu l (bO (aX 256 F)) st a x)))) (jA (di l (bO (aX 256 F)) (l.length-st.length-1)) st (kL l (bO (aX 256 F)) st a)=di l (bO (aX 256 F)) (l.length-st.length) st/\l=l/\List.map aS l=List.map aS l/\aX 256 F=aX 256 F/\True))) (by kernel_rfl) ?_;unfold v49.q4 v49.q3 v49.q2 v49.q1;obtain⟨h3,hl,hF,hS,hle,hlt,-⟩:=hp;change List PD at l;change List ax at st;generalize hFF:bO (aX 256 F)=G at*;have hG:∀j,j<256->G j=F j:=λj hj=>by rw[<-hFF,rZ hj]
 simp only[dz,ek,eq_self,true_and,and_true,dQ,List.length_map,fW];refine⟨λe=>?_,λe=>?_⟩;· rw[show l.length-st.length=0 by omega];rfl
 generalize hr:l.length-st.length-1=r;have wM:l.length-st.length=r+1:=by omega
 have bg:∀s,0<=di l G r s/\di l G r s<=2727346176:=LG hl h3 hF (by omega);have bs:∀i y,i<=3->0<=jA (di l G r) st (kL l G st i++qu l G st i y)/\jA (di l G r) st (kL l G st i++qu l G st i y)<=189910568927232:=λi y hi=>aeb hl h3 hF (by omega) hi;refine⟨⟨0,by omega,rfl,by omega,by omega⟩,λa ha=>⟨λhal=>⟨⟨by omega,by omega⟩,by omega,lB.2 ⟨λhh=>?_,λhh=>?_⟩⟩,λhal=>?_⟩⟩;· refine⟨⟨by omega,by omega⟩,a+1,by omega,jW.refl _,?_,by omega,by omega⟩;rw[qh,if_pos hh,cV]
 .have oa:gX (l.getD a dP):=bX (by omega) hl;have q4:(qL l a).length<=4:=Gk hl;simp only[OS (l:=l) (k:=a) (by omega),aS,eq_self,true_and];refine⟨⟨0,by omega,by rw[Xr,cV],by omega,by omega⟩,λy hy=>⟨λlX=>?_,λlX=>?_⟩⟩
  .have lX:y<(qL l a).length:=fK.1 lX;have hq:0<=(qL l a).getD y 0/\(qL l a).getD y 0<=3:=oa.yw _ (bX (P:=λx=>x∈qL l a) lX λ_ h=>h);have ys:=Lk (F:=G) (st:=st) lX
   revert ys hq
   generalize(qL l a).getD y 0=q;intro hq ys;refine⟨⟨by omega,fK.2 lX⟩,⟨λh0=>?_,λh0=>?_⟩,λs hs=>⟨λhsl=>?_,λhsl=>?_⟩⟩
   .have hst:0<st.length:=by omega
    have e3:((st.length:Int)-1).toNat=st.length-1:=by omega
    have hm:st.getD (st.length-1) gB∈st:=bX (P:=λx=>x∈st) (by omega) λ_ h=>h;simp only[e3];have ss:∀q,lqp G st a q=G (tW (st.getD (st.length-1) gB).1.toNat (st.getD (st.length-1) gB).2.1.toNat a q.toNat):=λq=>if_neg (by omega);rw[ss]
    revert hm
    generalize st.getD (st.length-1) gB=x;intro hm;obtain⟨⟨p0,p1⟩,x0,x3⟩:=hS _ hm;have hj:tW x.1.toNat x.2.1.toNat a q.toNat<256:=by unfold tW;omega
    refine⟨⟨by omega,by omega⟩,⟨by omega,by omega⟩,⟨p0,Int.lt_of_lt_of_le p1 (by omega)⟩,⟨x0,vX x3⟩,⟨by omega,by omega⟩,⟨hq.1,by omega⟩,F (tW x.1.toNat x.2.1.toNat a q.toNat),Jp (a:=λ_=>.no) (by unfold tW;omega) hj,_,rfl,jW.refl _,(hG _ hj).symm⟩
   .exact⟨_,rfl,jW.refl _,by unfold lqp;rw[if_pos (by omega)]⟩
   .subst hs;have hs0:¬(lqp G st a q).length=0:=by omega
    have JN:=OY (st:=st) (i:=a) (n:=q) hF;rw[if_neg hs0]at ys;have hlen:(st++[((a:Int),q,(lqp G st a q).getD 0 0,())]).length=st.length+1:=by simp
    have Dv:l.length-(st.length+1)=r:=by omega
    obtain⟨g0,g1⟩:=bg (st++[((a:Int),q,(lqp G st a q).getD 0 0,())]);obtain⟨b0,b1⟩:=bs a y (by omega);have m0:0<=((lqp G st a q).length:Int)*di l G r (st++[((a:Int),q,(lqp G st a q).getD 0 0,())]):=Int.mul_nonneg (by omega) g0;have m1:((lqp G st a q).length:Int)*di l G r (st++[((a:Int),q,(lqp G st a q).getD 0 0,())])<=4352*2727346176:=Int.mul_le_mul (by omega) g1 g0 (by omega);have mO:nD l (st++[((a:Int),q,(lqp G st a q).getD 0 0,())]):=λx hx=>by
     rcases dX.1 hx with hx|hx;· exact hS x hx
     rw[bC]at hx;subst hx;exact⟨⟨by dsimp only;omega,by dsimp only;omega⟩,by dsimp only;omega,by dsimp only;omega⟩
    have ev:jA (di l G r) st (kL l G st a++qu l G st a (y+1))=jA (di l G r) st (kL l G st a++qu l G st a y)+((lqp G st a q).length:Int)*di l G r (st++[((a:Int),q,(lqp G st a q).getD 0 0,())]):=by rw[ys,<-iO,Wn,Wm]
    simp only[hlen,Dv];exact⟨⟨by omega,by omega⟩,⟨by omega,by omega⟩,⟨by omega,.inr (by omega)⟩,h1,h3,hl,hF,mO,by omega,by omega,⟨by omega,by omega⟩,⟨by omega,by omega⟩,⟨by omega,by omega⟩,y+1,by omega,jW.refl _,ev.symm,by omega,by omega⟩
   subst hs;rw[if_pos (by omega),cV]at ys;exact⟨⟨by omega,by omega⟩,y+1,by omega,jW.refl _,by rw[ys],by omega,by omega⟩
  have lX:¬y<(qL l a).length:=λh=>lX (fK.2 h);exact⟨⟨by omega,by omega⟩,a+1,by omega,jW.refl _,by rw[qh,if_neg (by rw[hh];decide),show y=(qL l a).length by omega],by omega,by omega⟩
 rw[wM,di,show a=l.length by omega]
end Go.Tv
