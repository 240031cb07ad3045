import Derived.Test.YtedcgbkilmlbhaaGreatPk16
import Derived.Test.YtedcgbkilmlbhaaGreatPk17
set_option maxHeartbeats 1000000
set_option maxRecDepth 100000
namespace Go.Tv
open Go Go.Di Go.Proofs
abbrev akq:TT:=.sl (.sl (.pair (.int .i64) (.pair (.int .i64) (.pair (.int .i64) .unit))))
def Kt(st:dp):List dp:=if st.length=0 then[]else[st]
def AJ(l:cP)(st:dp)(i:Nat)(n:Int):br:=if st.length=0 then[0]else shA (l.getD (lR st).1.toNat dP) (l.getD i dP) (lR st).2.1 n
def mA(l:cP)(st:dp)(i y:Nat):dp:=((qL l i).take y).flatMap λn=>(AJ l st i n).map λs=>((i:Int),n,s,())
def ij(l:cP)(st:dp)(i:Nat):dp:=(List.range i).flatMap λ(i:Nat)=>if fA st (i:Int)then[]else mA l st i (qL l i).length
def xS(l:cP)(st:dp)(i y k:Nat):dp:=((AJ l st i ((qL l i).getD y 0)).take k).map λs=>((i:Int),(qL l i).getD y 0,s,())
def iB(l:cP):Nat->dp->List dp
 |0,st=>Kt st
 |r+1,st=>Kt st++(ij l st l.length).flatMap λx=>iB l r (st++[x])
def lD(l:cP)(st:dp)(ns:dp):List dp:=Kt st++ns.flatMap λx=>iB l (l.length-st.length-1) (st++[x])
def Nw(l:cP)(st:dp):Prop:=∀x∈st,(0<=x.1/\x.1<(l.length:Int))/\x.2.1∈qL l x.1.toNat
def J74(l:cP)(st:dp):List (Nat×LA):=
 [(2,.st {sl:=[(5,.sl (.sl bn) (Kt st) (.iT 0))],own:=[(47,1)]}),
  (6,.ex Nat λi=>.st {sl:=[(5,.sl (.sl bn) (lD l st (ij l st i)) (.iT 0)),(6,aV i)],cQ:=[i<=l.length],m:=l.length-i}),
  (13,.dep λte _=>od te 6 λi=>.ex Nat λy=>.st {sl:=[(5,.sl (.sl bn) (lD l st (ij l st i++mA l st i y)) (.iT 0)),(7,aV y)],cQ:=[y<=(qL l i).length],m:=(qL l i).length-y}),
  (19,.dep λte _=>od te 6 λi=>od te 7 λy=>.ex br λs=>.st {sl:=[(9,.sl bY s .no)],cQ:=[s=AJ l st i ((qL l i).getD y 0)]}),
  (23,.dep λte _=>od te 6 λi=>od te 7 λy=>.ex Nat λk=>.st {sl:=[(5,.sl (.sl bn) (lD l st (ij l st i++mA l st i y++xS l st i y k)) (.iT 0)),(11,aV k)],cQ:=[k<=(AJ l st i ((qL l i).getD y 0)).length],m:=(AJ l st i ((qL l i).getD y 0)).length-k})]
def D74(n:Nat):cp->Dn
 |[.sl (.pair (.sl (.int .i64)) (.pair (.sl (.int .i64)) (.pair (.int .i64) (.pair (.sl (.int .i64)) .unit)))) l .no,.sl (.pair (.int .i64) (.pair (.int .i64) (.pair (.int .i64) .unit))) st .no]=>some ([l.length<=3,∀p∈l,iA p,Nw l st,(st.map (·.1)).Nodup,l.length<st.length+n],.res (.sl (.sl bn) (iB l (l.length-st.length) st) .no) [] [],J74 l st)
 |_=>none
def A74(n:Nat):eM:=(((T0.cG 115 λa=>dS (Vv a)).cG 81 λa=>dS (D16 a)).cG 109 λa=>dS (D66 a)).cG 74 λa=>dS (D74 n a)
theorem Ml{α:Type}{l:List α}{i:Nat}{d:α}(h:i<l.length):l.getD i d∈l:=by rw[aU,cq h];exact nQ h
section
variable {l:cP} {st ns ms:dp} {i y k:Nat} {n:Int}
theorem QB:lD l st []=Kt st:=by simp[lD]
theorem abL:lD l st (ns++ms)=lD l st ns++ms.flatMap λx=>iB l (l.length-st.length-1) (st++[x]):=by rw[lD,lD,List.flatMap_append,iO]
theorem sL:ij l st (i+1)=ij l st i++(if fA st (i:Int)then[]else mA l st i (qL l i).length):=by unfold ij;rw[iy,List.flatMap_append];simp
theorem LV:∀{a:Nat},(∀i,i<a->fA st (i:Int)=true)->ij l st a=[]
 |0,_=>rfl
 |a+1,h=>by rw[sL,LV λi hi=>h i ab,if_pos (h a ab),dW]
theorem TA(h:y<(qL l i).length):mA l st i (y+1)=mA l st i y++xS l st i y (AJ l st i ((qL l i).getD y 0)).length:=by unfold mA xS;rw[jZ 0 h,List.flatMap_append,fR];simp
theorem TD(h:k<(AJ l st i ((qL l i).getD y 0)).length):xS l st i y (k+1)=xS l st i y k++[((i:Int),(qL l i).getD y 0,(AJ l st i ((qL l i).getD y 0)).getD k 0,())]:=by unfold xS;rw[jZ 0 h,fG];rfl
theorem Gv(hl:∀p∈l,iA p)(h:Nw l st):rD l st:=λx hx=>⟨(h x hx).1,(dB (P:=iA) (d:=dP) (by have:=(h x hx).1;omega) hl).CH _ (h x hx).2⟩
theorem QG(h:Nw l st)(hi:i<l.length)(hn:n∈qL l i){s:Int}:Nw l (st++[((i:Int),n,s,())]):=λx hx=>by rcases eG.1 hx with hx|hx;exact h x hx;rw[bV.1 hx];exact⟨⟨by dsimp only;omega,by dsimp only;omega⟩,hn⟩
theorem Xj(hl:∀p∈l,iA p)(j:Nat):(l.getD j dP).1.length<=8:=by by_cases h:j<l.length;exact(dB (P:=iA) (d:=dP) h hl).n8;rw[aU,pH ab];decide
theorem Qe(hl:∀p∈l,iA p):(AJ l st i n).length<=17:=by unfold AJ;split;decide;have h1:=Xj hl (lR st).1.toNat;have h2:=Xj hl i;show(List.filter _ _).length<=17;refine bt (tK ..) ?_;rw[List.length_map,List.length_range];omega
theorem LU(hl:∀p∈l,iA p):(mA l st i y).length<=68:=by
 have h:=tC (l:=(qL l i).take y) (f:=λn=>(AJ l st i n).map λs=>(((i:Int),n,s,()):ay)) (c:=17) λx _=>by rw[List.length_map];exact Qe hl
 have h2:=DO (i:=i) hl;have h3:((qL l i).take y).length<=4:=by rw[List.length_take];omega
 unfold mA;omega
theorem Ex(hl:∀p∈l,iA p):∀i,(ij l st i).length<=i*68
 |0=>by simp[ij]
 |i+1=>by
  have ih:=Ex hl i;rw[sL,cn];have:(if fA st (i:Int)then[]else mA l st i (qL l i).length).length<=68:=by split;simp;exact LU hl
  omega
def bnN:Nat->Nat
 |0=>1
 |r+1=>1+204*bnN r
theorem I3:(Kt st).length<=1:=by unfold Kt;split<;>simp
theorem Dq(hl:∀p∈l,iA p)(h3:l.length<=3):∀(r:Nat)(st:dp),(iB l r st).length<=bnN r
 |0,st=>I3
 |r+1,st=>by have h:=tC (l:=ij l st l.length) (f:=λx=>iB l r (st++[x])) (c:=bnN r) λx _=>Dq hl h3 r _;have h1:=Ex (st:=st) hl l.length;have h2:=I3 (st:=st);have h4:(ij l st l.length).length*bnN r<=204*bnN r:=fH _ ab;rw[iB,bnN,cn];omega
theorem Wa{r:Nat}(hr:r<=2):bnN r<=41821:=by
 have:r=0\/r=1\/r=2:=ab
 rcases this with rfl|rfl|rfl<;>decide
theorem abJ(hl:∀p∈l,iA p)(h3:l.length<=3)(hr:l.length-st.length-1<=2){c:Nat}(hc:ns.length<=c):(lD l st ns).length<=1+c*41821:=by have h:=tC (l:=ns) (f:=λx=>iB l (l.length-st.length-1) (st++[x])) (c:=41821) λx _=>bt (Dq hl h3 _ _) (Wa hr);have h2:=I3 (st:=st);have h4:ns.length*41821<=c*41821:=fH _ hc;rw[lD,cn];omega
theorem abK(hl:∀p∈l,iA p)(hT:Nw l st)(hn:(st.map (·.1)).Nodup):lD l st (ij l st l.length)=iB l (l.length-st.length) st:=by have hst:=KP (Gv hl hT) hn;by_cases h:st.length=l.length;rw[LV λi hi=>by by_cases hh:fA st (i:Int)=true;exact hh;have:=PA (Gv hl hT) hn hi (by simpa using hh);omega,QB,show l.length-st.length=0 by omega,iB];rw[show l.length-st.length=(l.length-st.length-1)+1 by omega,iB];rfl
end
def v74.q1 (p0:List (aF).den)(p1 p2:Nat)(p3:Prop):Prop:=fK (List.getD (p0.getD p1 bm).2.2.2.1 p2 (0:Int)) (p0.getD p1 bm).1 (p0.getD p1 bm).2.1=fK (List.getD (p0.getD p1 bm).2.2.2.1 p2 (0:Int)) (p0.getD p1 bm).1 (p0.getD p1 bm).2.1/\fL (List.getD (p0.getD p1 bm).2.2.2.1 p2 (0:Int)) (p0.getD p1 bm).1 (p0.getD p1 bm).2.1=fL (List.getD (p0.getD p1 bm).2.2.2.1 p2 (0:Int)) (p0.getD p1 bm).1 (p0.getD p1 bm).2.1/\(p0.getD p1 bm).2.2.1=(p0.getD p1 bm).2.2.1/\iC (List.getD (p0.getD p1 bm).2.2.2.1 p2 (0:Int)) (p0.getD p1 bm).2.2.2.1 4=iC (List.getD (p0.getD p1 bm).2.2.2.1 p2 (0:Int)) (p0.getD p1 bm).2.2.2.1 4/\p3
def v74.q2 (p0:List (aF).den)(p1:Nat)(p2:Prop):Prop:=(p0.getD p1 bm).snd.snd.snd.fst=(p0.getD p1 bm).snd.snd.snd.fst/\p2
def v74.q3 (p0:Nat)(p1:List (aF).den)(p2:Nat)(p3:Prop):Prop:=p0=p0/\0=0/\p1=p1/\p0=p0/\3=3/\v74.q2 p1 p0 ((↑(List.length (p1.getD p0 bm).2.2.2.1):Int)=(↑(List.length (p1.getD p0 bm).2.2.2.1):Int)/\true=true/\p1=p1/\(↑p0:Int)=(↑p0:Int)/\p1=p1/\p0=p0/\0=0/\(p1.getD p0 bm).1=(p1.getD p0 bm).1/\(p1.getD p0 bm).2.1=(p1.getD p0 bm).2.1/\(p1.getD p0 bm).2.2.1=(p1.getD p0 bm).2.2.1/\v74.q2 p1 p0 (p1=p1/\(↑p0:Int)=(↑p0:Int)/\p1=p1/\p0=p0/\0=0/\p1=p1/\p0=p0/\3=3/\v74.q2 p1 p0 ((↑p2:Int)=(↑p2:Int)/\v74.q2 p1 p0 (p2=p2/\0=0/\List.getD (p1.getD p0 bm).2.2.2.1 p2 0=List.getD (p1.getD p0 bm).2.2.2.1 p2 (0:Int)/\v74.q1 p1 p0 p2 ([(0:Int)]=[(0:Int)]/\v74.q1 p1 p0 p2 p3)))))
def v74.q4 (p0:List (aF).den)(p1:bY.den)(p2:Nat):Prop:=Ok (fK p1 (p0.getD p2 bm).1 (p0.getD p2 bm).2.1) (fL p1 (p0.getD p2 bm).1 (p0.getD p2 bm).2.1) (p0.getD p2 bm).2.2.1 (iC p1 (p0.getD p2 bm).2.2.2.1 4)
def v74.q5 (p0:Nat)(p1:List (aF).den)(p2:List (bn).den)(p3:Nat)(p4:br):Prop:=(↑p0:Int)=(↑p0:Int)/\p1=p1/\(↑p1.length:Int)=(↑p1.length:Int)/\true=true/\p2=p2/\(↑p0:Int)=(↑p0:Int)/\false=false/\(↑p3:Int)=(↑p3:Int)/\p1=p1/\(↑p0:Int)=(↑p0:Int)/\p1=p1/\v74.q3 p0 p1 p3 (p4=AJ p1 p2 p0 ((qL p1 p0).getD p3 0)/\True)
def v74.q6 (p0:List (aF).den)(p1:Int)(p2 p3:Nat)(p4:bY.den)(p5:Prop):Prop:=(0<=p1/\p1<(↑p2:Int))/\List.length (p0.getD p3 bm).1<=1000/\List.length (p0.getD p3 bm).2.1<=1000/\List.length (p0.getD p3 bm).2.2.2.1<=1000/\0<=p4/\p4<=3/\p5
def v74.q7 (p0:List (aF).den)(p1:List (bn).den)(p2:Prop):Prop:=p0=p0/\p1=p1/\ng bn.sl.den/\p2
theorem v74(n:Nat):VI (A74 n) Tryz.f74 [some (.sl (.sl bn))] (D74 (n+1)):=by
 refine dH λa=>?_;unfold D74;split
 rotate_left
 trivial;rename_i l st;intro hp;refine jx (A:=aB (decide ((↑st.length:Int)>0)) (0+1<=1000000000/\v74.q7 l st ([st]=Kt st/\True)) (v74.q7 l st ([]=Kt st/\True))/\(∃(a:Nat),Kt st=lD l st (ij l st a)/\0=(↑a:Int)/\a<=l.length/\l.length-a<1000000)/\∀(a:Nat),a<=l.length->aB (decide ((↑a:Int)<(↑l.length:Int))) (st.length<=1000/\aB (fA st (↑a:Int)) (cR ((↑a:Int)+1)/\∃(y:Nat),v74.q7 l st (lD l st (ij l st a)=lD l st (ij l st y)/\(↑a:Int)+1=(↑y:Int)/\y<=l.length/\l.length-y<l.length-a)) ((∃(y:Nat),lD l st (ij l st a)=lD l st (ij l st a++mA l st a y)/\0=(↑y:Int)/\y<=(qL l a).length/\(qL l a).length-y<1000000)/\∀(y:Nat),y<=(qL l a).length->(0<=(↑a:Int)/\(↑a:Int)<(↑l.length:Int))/\aB (decide ((↑y:Int)<(↑(List.length (l.getD a bm).2.2.2.1):Int))) ((0<=(↑a:Int)/\(↑a:Int)<(↑l.length:Int))/\(0<=(↑a:Int)/\(↑a:Int)<(↑l.length:Int))/\v74.q6 l (↑y:Int) (List.length (l.getD a bm).2.2.2.1) a (List.getD (l.getD a bm).2.2.2.1 y (0:Int)) (aB (decide ((↑st.length:Int)>0)) (cR ((↑st.length:Int)-1)/\(0<=(↑st.length:Int)-1/\(↑st.length:Int)-1<(↑st.length:Int))/\(0<=(st.getD ((↑st.length:Int)-1).toNat bo).1/\(st.getD ((↑st.length:Int)-1).toNat bo).1<(↑l.length:Int))/\cR ((↑st.length:Int)-1)/\v74.q6 l ((↑st.length:Int)-1) st.length (Int.toNat (st.getD ((↑st.length:Int)-1).toNat bo).1) (st.getD ((↑st.length:Int)-1).toNat bo).2.1 (v74.q4 l (st.getD ((↑st.length:Int)-1).toNat bo).2.1 (Int.toNat (st.getD ((↑st.length:Int)-1).toNat bo).1)/\v74.q4 l (List.getD (l.getD a bm).2.2.2.1 y (0:Int)) a/\∃(z:br),v74.q7 l st (lD l st (ij l st a++mA l st a y)=lD l st (ij l st a++mA l st a y)/\(↑a:Int)=(↑a:Int)/\(↑y:Int)=(↑y:Int)/\yG (fL (st.getD ((↑st.length:Int)-1).toNat bo).2.1 (l.getD (Int.toNat (st.getD ((↑st.length:Int)-1).toNat bo).1) bm).1 (l.getD (Int.toNat (st.getD ((↑st.length:Int)-1).toNat bo).1) bm).2.1) (fK (List.getD (l.getD a bm).2.2.2.1 y (0:Int)) (l.getD a bm).1 (l.getD a bm).2.1) ((l.getD (Int.toNat (st.getD ((↑st.length:Int)-1).toNat bo).1) bm).2.2.1+(l.getD a bm).2.2.1) ((fK (List.getD (l.getD a bm).2.2.2.1 y (0:Int)) (l.getD a bm).1 (l.getD a bm).2.1).length+(fL (st.getD ((↑st.length:Int)-1).toNat bo).2.1 (l.getD (Int.toNat (st.getD ((↑st.length:Int)-1).toNat bo).1) bm).1 (l.getD (Int.toNat (st.getD ((↑st.length:Int)-1).toNat bo).1) bm).2.1).length+1)=z/\v74.q5 a l st y z))) (∃(z:br),v74.q7 l st (lD l st (ij l st a++mA l st a y)=lD l st (ij l st a++mA l st a y)/\(↑a:Int)=(↑a:Int)/\(↑y:Int)=(↑y:Int)/\[(0:Int)]=z/\v74.q5 a l st y z))/\∀(z:br),z=AJ l st a ((qL l a).getD y 0)->(∃(u:Nat),lD l st (ij l st a++mA l st a y)=lD l st (ij l st a++mA l st a y++xS l st a y u)/\0=(↑u:Int)/\u<=(AJ l st a ((qL l a).getD y 0)).length/\(AJ l st a ((qL l a).getD y 0)).length-u<1000000)/\∀(u:Nat),u<=(AJ l st a ((qL l a).getD y 0)).length->aB (decide ((↑u:Int)<(↑z.length:Int))) ((0<=(↑a:Int)/\(↑a:Int)<(↑l.length:Int))/\(0<=(↑y:Int)/\(↑y:Int)<(↑(List.length (l.getD a bm).2.2.2.1):Int))/\(0<=(↑u:Int)/\(↑u:Int)<(↑z.length:Int))/\0+st.length<=1000000000/\st.length+1<=1000000000/\l.length<=3/\(∀(p:(aF).den),p∈l->iA p)/\Nw l (st++[((↑a:Int),List.getD (l.getD a bm).2.2.2.1 y (0:Int),z.getD u 0,())])/\(List.map (λ(x:(bn).den)=>x.1) (st++[((↑a:Int),List.getD (l.getD a bm).2.2.2.1 y (0:Int),z.getD u 0,())])).Nodup/\l.length<(st++[((↑a:Int),List.getD (l.getD a bm).2.2.2.1 y (0:Int),z.getD u 0,())]).length+n/\(lD l st (ij l st a++mA l st a y++xS l st a y u)).length+(iB l (l.length-(st++[((↑a:Int),List.getD (l.getD a bm).2.2.2.1 y (0:Int),z.getD u 0,())]).length) (st++[((↑a:Int),List.getD (l.getD a bm).2.2.2.1 y (0:Int),z.getD u 0,())])).length<=1000000000/\cR ((↑u:Int)+1)/\∃(v:Nat),v74.q7 l st (lD l st (ij l st a++mA l st a y++xS l st a y u)++iB l (l.length-(st++[((↑a:Int),List.getD (l.getD a bm).2.2.2.1 y (0:Int),z.getD u 0,())]).length) (st++[((↑a:Int),List.getD (l.getD a bm).2.2.2.1 y (0:Int),z.getD u 0,())])=lD l st (ij l st a++mA l st a y++xS l st a y v)/\(↑a:Int)=(↑a:Int)/\(↑y:Int)=(↑y:Int)/\z=z/\(↑u:Int)+1=(↑v:Int)/\(↑a:Int)=(↑a:Int)/\l=l/\(↑l.length:Int)=(↑l.length:Int)/\true=true/\st=st/\(↑a:Int)=(↑a:Int)/\false=false/\(↑y:Int)=(↑y:Int)/\l=l/\(↑a:Int)=(↑a:Int)/\l=l/\v74.q3 a l y (v<=(AJ l st a ((qL l a).getD y 0)).length/\(AJ l st a ((qL l a).getD y 0)).length-v<(AJ l st a ((qL l a).getD y 0)).length-u))) (cR ((↑y:Int)+1)/\∃(v:Nat),v74.q7 l st (lD l st (ij l st a++mA l st a y++xS l st a y u)=lD l st (ij l st a++mA l st a v)/\(↑a:Int)=(↑a:Int)/\(↑y:Int)+1=(↑v:Int)/\(↑a:Int)=(↑a:Int)/\l=l/\(↑l.length:Int)=(↑l.length:Int)/\true=true/\st=st/\(↑a:Int)=(↑a:Int)/\false=false/\v<=(qL l a).length/\(qL l a).length-v<(qL l a).length-y)))) (cR ((↑a:Int)+1)/\∃(z:Nat),v74.q7 l st (lD l st (ij l st a++mA l st a y)=lD l st (ij l st z)/\(↑a:Int)+1=(↑z:Int)/\z<=l.length/\l.length-z<l.length-a)))) (lD l st (ij l st a)=iB l (l.length-st.length) st/\True)) (by kernel_rfl) ?_;unfold v74.q7 v74.q6 v74.q5 v74.q4 v74.q3 v74.q2 v74.q1;obtain⟨h3,hl,hT,hn,hm,-⟩:=hp;have hS:=Gv hl hT;have hst:=KP hS hn;change dp at st;change cP at l;simp only[bP,cR,eW,eq_self,true_and,and_true];refine⟨⟨λh=>⟨ab,by rw[Kt,if_neg ab]⟩,λh=>by rw[Kt,if_pos ab]⟩,⟨0,QB.symm,rfl,ab,ab⟩,λi hi=>⟨λhlt=>⟨ab,gZ.2 ⟨λhh=>⟨⟨ab,ab⟩,i+1,?_,ab,ab,ab⟩,λhh=>?_⟩⟩,λFG=>?_⟩⟩;rw[sL,if_pos hh,dW];have Np:i<l.length:=ab
 have oi:iA (l.getD i dP):=dB ab hl;have h1:=PA hS hn Np hh;have q4:=DO (i:=i) hl;refine⟨⟨0,by rw[show mA l st i 0=[]from rfl,dW],rfl,ab,ab⟩,λy hy=>⟨⟨ab,ab⟩,λsY=>?_,λsY=>⟨⟨ab,ab⟩,i+1,?_,ab,ab,ab⟩⟩⟩;have ad7:y<(qL l i).length:=by exact_mod_cast sY
 have hq:(qL l i).getD y 0∈qL l i:=Ml ad7;have on:=oi.CH _ hq;have so:=BU oi;have sl:=Qe (st:=st) (i:=i) (n:=(qL l i).getD y 0) hl;refine⟨⟨ab,ab⟩,⟨ab,ab⟩,⟨ab,sY⟩,so.1,so.2.1,so.2.2,on.1,on.2,⟨λhs=>?_,λhs=>⟨_,rfl,by rw[AJ,if_pos ab]⟩⟩,λs hs=>⟨⟨0,by rw[show xS l st i y 0=[]from rfl,dW],rfl,ab,ab⟩,λk hk=>⟨λhkl=>?_,λhkl=>⟨⟨ab,ab⟩,y+1,?_,ab,ab,ab⟩⟩⟩⟩;have e:((st.length:Int)-1).toNat=st.length-1:=by omega
 rw[e];have hx:st.getD (st.length-1) bo∈st:=Ml ab;have ix:=(hT _ hx).1;have ox:iA (l.getD (st.getD (st.length-1) bo).1.toNat dP):=dB ((Int.toNat_lt ix.1).2 ix.2) hl;have lx:=ox.CH _ (hT _ hx).2;have sx:=BU ox;refine⟨⟨ab,ab⟩,⟨ab,ab⟩,ix,⟨ab,ab⟩,⟨ab,ab⟩,sx.1,sx.2.1,sx.2.2,lx.1,lx.2,WG ox lx,WG oi on,_,rfl,?_⟩;rw[AJ,if_neg ab,(Dj oi.len).1,(Dj ox.len).2];subst hs;have agT:k<(AJ l st i ((qL l i).getD y 0)).length:=by exact_mod_cast hkl
 have Gg:∀x:ay,(st++[x]).length=st.length+1:=λx=>ae
 refine⟨⟨ab,ab⟩,⟨ab,sY⟩,⟨ab,hkl⟩,ab,ab,h3,hl,QG hT Np hq,Bu hn hh,by rw[Gg];omega,?_,⟨ab,ab⟩,k+1,?_,ab,ab,ab⟩;have a1:=Ex (st:=st) hl i;have a2:=LU (st:=st) (i:=i) (y:=y) hl;have a3:(xS l st i y k).length<=17:=by unfold xS;rw[List.length_map,List.length_take];omega
 have a4:=abJ (st:=st) (ns:=ij l st i++mA l st i y++xS l st i y k) (c:=289) hl h3 ab (by rw[cn,cn];omega);have a5:=Dq hl h3 (l.length-(st.length+1)) (st++[((i:Int),(qL l i).getD y 0,(AJ l st i ((qL l i).getD y 0)).getD k 0,())]);have a6:=Wa (r:=l.length-(st.length+1)) ab;rw[Gg];have a7:=Nat.add_le_add a4 (bt a5 a6);exact bt a7 an;rw[TD agT,<-iO,abL (ms:=[_]),cz,List.flatMap_nil,dW,Gg,Nat.sub_sub];subst hs;have agT:¬k<(AJ l st i ((qL l i).getD y 0)).length:=by exact_mod_cast hkl
 rw[TA ad7,<-iO,show k=(AJ l st i ((qL l i).getD y 0)).length by omega];have ad7:¬y<(qL l i).length:=by exact_mod_cast sY
 rw[sL,if_neg (by rw[hh];decide),show y=(qL l i).length by omega];rw[show i=l.length by omega,abK hl hT hn]
end Go.Tv
namespace Go.Tv
open Go Go.Di Go.Proofs
def qG(L:Nat)(xs:List dp):Nat:=(xs.filter λx=>x.length==L).length
def xb(b:dp)(xs:List dp):dp:=xs.foldl (λb x=>mX x b) b
abbrev gX(l:cP):List dp:=iB l l.length []
def A29:eM:=(T0.cG 51 λa=>dS (D51 a)).cG 74 λa=>dS (D74 4 a)
def D29:cp->Dn
 |[.sl (.pair (.sl (.int .i64)) (.pair (.sl (.int .i64)) (.pair (.int .i64) (.pair (.sl (.int .i64)) .unit)))) l .no]=>some ([l.length<=1000,∀p∈l,cV p,fC l=0->l.length<=3],.ex Int λn=>.ex Int λe=>.res (.tup [aV n,aV e]) [] [n=lH l,e=fC l],
  [(9,.ex Nat λj=>.st {sl:=[(6,aV (qG l.length ((gX l).take j))),(7,aV j)],cQ:=[j<=(gX l).length],m:=(gX l).length-j})])
 |_=>none
section
variable {l:cP} {st ns ms:dp} {i y k:Nat} {n:Int}
theorem WO(hl:∀p∈l,iA p)(hT:Nw l st):mA l st i (qL l i).length=Gx l st i:=by
 unfold mA Gx;rw[fR];by_cases h0:st.length=0;rw[if_pos h0];unfold AJ;simp only[if_pos h0,aY,eO];generalize qL l i=q;induction q with
 |nil=>rfl
 |cons a q ih=>rw[cz,ih];rfl
 have hm:lR st∈st:=dB (P:=λx=>x∈st) ab λ_ h=>h;have ol:iA (l.getD (lR st).1.toNat dP):=dB (by have:=(hT _ hm).1;omega) hl;rw[if_neg h0,Rp ol,if_pos (hT _ hm).2,wA];refine qx λn _=>?_;rw[AJ,if_neg h0,jm];rfl
theorem QK(hl:∀p∈l,iA p)(hT:Nw l st):ij l st i=allI l st i:=qx λk _=>by rw[WO hl hT]
theorem QF(hT:Nw l st)(hi:i<=l.length){x:ay}(h:x∈ij l st i):Nw l (st++[x]):=by unfold ij at h;obtain⟨k,hk,h⟩:=rm.1 h;rw[qY]at hk;split at h;cases h;unfold mA at h;obtain⟨n,hn,h⟩:=rm.1 h;obtain⟨s,-,rfl⟩:=er.1 h;exact QG hT ab (zL hn)
theorem JJ{L:Nat}{a c:List dp}:qG L (a++c)=qG L a+qG L c:=by simp[qG]
theorem Rt(hl:∀p∈l,iA p)(h0:l.length≠0):∀(r:Nat){st:dp},Nw l st->st.length+r=l.length->(qG l.length (iB l r st):Int)=FZ l r st
 |0,st,_,hr=>by rw[iB,FZ,Kt,if_neg ab];simp[qG,show st.length=l.length by omega]
 |r+1,st,hT,hr=>by
  have hz:qG l.length (Kt st)=0:=by unfold Kt;split;rfl;simp only[qG,List.filter_cons,List.filter_nil,ee];rw[if_neg ab];rfl
  rw[iB,FZ,JJ,hz,<-QK hl hT,iw];have key:∀ns:dp,(∀x∈ns,x∈ij l st l.length)->(qG l.length (ns.flatMap λx=>iB l r (st++[x])):Int)=(ns.map λx=>FZ l r (st++[x])).sum:=by
   intro ns;induction ns with
   |nil=>exactλ_=>rfl
   |cons x ns ih=>intro h;rw[cz,JJ,Int.natCast_add,ih λq hq=>h q (by simp[hq]),Rt hl h0 r (QF hT (ak _) (h x ae)) (by rw[cn,pG];omega),aY,List.sum_cons]
  exact key _ λ_ h=>h
theorem JF{b:dp}{a c:List dp}:xb b (a++c)=xb (xb b a) c:=nS
theorem W9{b:dp}:xb b (Kt st)=mX st b:=by unfold Kt;split;rename_i h;show b=_;rw[mX,if_neg ab];rfl
theorem Re(hl:∀p∈l,iA p):∀(r:Nat){st b:dp},Nw l st->xb b (iB l r st)=FU l r st b
 |0,st,b,_=>W9
 |r+1,st,b,hT=>by
  rw[iB,FU,JF,W9,<-QK hl hT];have key:∀(ns:dp)(c:dp),(∀x∈ns,x∈ij l st l.length)->xb c (ns.flatMap λx=>iB l r (st++[x]))=ns.foldl (λb x=>FU l r (st++[x]) b) c:=by
   intro ns;induction ns with
   |nil=>exactλ_ _=>rfl
   |cons x ns ih=>intro c h;rw[cz,JF,Re hl r (QF hT (ak _) (h x ae)),gh];exact ih _ λq hq=>h q (by simp[hq])
  exact key _ _ λ_ h=>h
theorem tq:Nw l []:=λx hx=>(nomatch hx)
theorem SJ(h:fC l=0):lH l=(qG l.length (gX l):Int):=by
 obtain⟨h4,hl⟩:=nL h;unfold lH;by_cases h0:l.length=0;rw[if_neg λh=>h.2 h0];have:gX l=[]:=by show iB l l.length []=[];rw[h0];rfl
 rw[this];rfl
 rw[if_pos ⟨h,h0⟩,<-Xh hl h4 _ (Gv hl tq),Rt hl h0 _ tq ae]
theorem YM(h:fC l=0)(h0:l.length≠0):mZ l=xb [] (gX l):=by obtain⟨h4,hl⟩:=nL h;rw[mZ,if_pos ⟨h,h0⟩,<-Oc hl h4 _ (Gv hl tq),Re hl _ tq]
theorem P5(hl:∀p∈l,iA p)(h3:l.length<=3):(gX l).length<1000000:=by
 by_cases h0:l.length=0;have:gX l=[]:=by show iB l l.length []=[];rw[h0];rfl
 rw[this];decide
 have key:∀i,(ij l [] i).length<=i*4:=λi=>by
  induction i with
  |zero=>simp[ij]
  |succ i ih=>
   rw[sL,cn];have:(if fA [] (i:Int)then[]else mA l [] i (qL l i).length).length<=4:=by rw[if_neg (by simp[fA]),WO hl tq];show(List.map _ _).length<=4;rw[List.length_map];exact DO hl
   omega
 have e:l.length=(l.length-1)+1:=ab
 show(iB l l.length []).length<_;have h1:=key l.length;have h:=tC (l:=ij l [] l.length) (f:=λx=>iB l (l.length-1) ([]++[x])) (c:=41821) λx _=>bt (Dq hl h3 _ _) (Wa ab);rw[e,iB,cn];have h4:(ij l [] l.length).length*41821<=12*41821:=fH _ ab;have h5:=I3 (st:=[]);omega
theorem Za{L j:Nat}{xs:List dp}{d:dp}(h:j<xs.length):qG L (xs.take (j+1))=qG L (xs.take j)+(if(xs.getD j d).length=L then 1 else 0):=by rw[jZ d h,JJ];congr 1;simp only[qG,List.filter_cons,List.filter_nil,ee];split<;>rfl
theorem YV{j:Nat}{xs:List dp}{d b:dp}(h:j<xs.length):xb b (xs.take (j+1))=mX (xs.getD j d) (xb b (xs.take j)):=by rw[jZ d h,JF];rfl
end
def v29.q1 (p0:Nat)(p1:List (aF).den)(p2:Int):Prop:=cR ((↑p0:Int)+1)/\∃(a:Nat),p1=p1/\(0:Int)=0/\(0:Int)=0/\iB p1 (p1.length-0) []=iB p1 (p1.length-0) []/\p2=(↑(qG p1.length (List.take a (gX p1))):Int)/\(↑p0:Int)+1=(↑a:Int)/\a<=(gX p1).length/\(gX p1).length-a<(gX p1).length-p0
theorem v29:VI A29 Tryz.f29 [some bY,some bY] D29:=by
 refine dH λa=>?_;unfold D29;split
 rotate_left
 trivial;rename_i l;intro hp;refine jx (A:=l.length<=1000/\(∀(p:(aF).den),p∈l->cV p)/\aB (fC l !=0) (∃(a:Int),∃(y:Int),0=a/\fC l=y/\a=lH l/\y=fC l/\True) (l.length<=3/\(∀(p:(aF).den),p∈l->iA p)/\Nw l []/\(List.map (λ(x:(bn).den)=>x.1) []).Nodup/\l.length<4/\(∃(a:Nat),0=(↑(qG l.length (List.take a (gX l))):Int)/\0=(↑a:Int)/\a<=(gX l).length/\(gX l).length-a<1000000)/\∀(a:Nat),a<=(gX l).length->aB (decide ((↑a:Int)<(↑(iB l (l.length-0) []).length:Int))) ((0<=(↑a:Int)/\(↑a:Int)<(↑(iB l (l.length-0) []).length:Int))/\aB ((↑(List.length ((iB l (l.length-0) []).getD a [])):Int)==(↑l.length:Int)) (cR ((↑(qG l.length (List.take a (gX l))):Int)+1)/\v29.q1 a l ((↑(qG l.length (List.take a (gX l))):Int)+1)) (v29.q1 a l (↑(qG l.length (List.take a (gX l))):Int))) (∃(y:Int),∃(z:Int),(↑(qG l.length (List.take a (gX l))):Int)=y/\0=z/\y=lH l/\z=fC l/\True))) (by kernel_rfl) ?_;unfold v29.q1;obtain⟨h1,h2,h3,-⟩:=hp;change cP at l;refine⟨h1,h2,dg.2 ⟨λhA=>?_,λhA=>⟨_,_,rfl,rfl,by rw[lH,if_neg λh=>hA h.1],rfl,trivial⟩⟩⟩;obtain⟨h4,hl⟩:=nL hA;have h3:=h3 hA;have ht:=P5 hl h3;simp only[bP,cH,cR,eW,eq_self,true_and,and_true,Nat.sub_zero];refine⟨h3,hl,tq,List.nodup_nil,ab,⟨0,rfl,rfl,ab,ab⟩,λj hj=>⟨λhlt=>?_,λFG=>?_⟩⟩;have AL:j<(gX l).length:=by exact_mod_cast hlt
 have hc:=Za (L:=l.length) (d:=[]) AL;have hle:qG l.length ((gX l).take j)<=j:=by unfold qG;refine bt (tK ..) ?_;rw[List.length_take];omega
 refine⟨⟨ab,hlt⟩,λhe=>⟨⟨ab,ab⟩,⟨ab,ab⟩,j+1,?_,ab,ab,ab⟩,λhe=>⟨⟨ab,ab⟩,j+1,?_,ab,ab,ab⟩⟩
 grind
 grind
 have AL:¬j<(gX l).length:=by exact_mod_cast FG
 refine⟨_,_,rfl,rfl,?_,hA.symm⟩;rw[List.take_of_length_le ab,SJ hA]
def aeX:cp->Dn
 |[.sl (.pair (.sl (.int .i64)) (.pair (.sl (.int .i64)) (.pair (.int .i64) (.pair (.sl (.int .i64)) .unit)))) l .no]=>some ([l.length<=1000,∀p∈l,cV p,fC l=0->l.length<=3],.ex dp λb=>.ex Int λe=>.res (.tup [.sl bn b .no,aV e]) [] [b=mZ l,e=oN l],
  [(12,.ex Nat λj=>.st {sl:=[(6,.sl bn (xb [] ((gX l).take j)) .no),(7,aV j)],cQ:=[j<=(gX l).length],m:=(gX l).length-j})])
 |_=>none
theorem aiR:VI A29 Tryz.f31 [some (.sl bn),some bY] aeX:=by
 refine dH λa=>?_;unfold aeX;split
 rotate_left
 trivial;rename_i l;intro hp;refine jx (A:=l.length<=1000/\(∀(p:(aF).den),p∈l->cV p)/\aB (fC l !=0) (∃(a:dp),∃(y:Int),[]=a/\fC l=y/\a=mZ l/\y=oN l/\True) (aB ((↑l.length:Int)==0) (∃(a:dp),∃(y:Int),[]=a/\7=y/\a=mZ l/\y=oN l/\True) (l.length<=3/\(∀(p:(aF).den),p∈l->iA p)/\Nw l []/\(List.map (λ(x:(bn).den)=>x.1) []).Nodup/\l.length<4/\(∃(a:Nat),[]=xb [] (List.take a (gX l))/\0=(↑a:Int)/\a<=(gX l).length/\(gX l).length-a<1000000)/\∀(a:Nat),a<=(gX l).length->aB (decide ((↑a:Int)<(↑(iB l (l.length-0) []).length:Int))) ((0<=(↑a:Int)/\(↑a:Int)<(↑(iB l (l.length-0) []).length:Int))/\aB (decide ((↑(List.length ((iB l (l.length-0) []).getD a [])):Int)>(↑(xb [] (List.take a (gX l))).length:Int))) ((0<=(↑a:Int)/\(↑a:Int)<(↑(iB l (l.length-0) []).length:Int))/\cR ((↑a:Int)+1)/\∃(y:Nat),ng bn.den/\(0:Int)=0/\iB l (l.length-0) []=iB l (l.length-0) []/\(iB l (l.length-0) []).getD a []=xb [] (List.take y (gX l))/\(↑a:Int)+1=(↑y:Int)/\y<=(gX l).length/\(gX l).length-y<(gX l).length-a) (cR ((↑a:Int)+1)/\∃(y:Nat),ng bn.den/\(0:Int)=0/\iB l (l.length-0) []=iB l (l.length-0) []/\xb [] (List.take a (gX l))=xb [] (List.take y (gX l))/\(↑a:Int)+1=(↑y:Int)/\y<=(gX l).length/\(gX l).length-y<(gX l).length-a)) (∃(y:dp),∃(z:Int),xb [] (List.take a (gX l))=y/\0=z/\y=mZ l/\z=oN l/\True)))) (by kernel_rfl) ?_;obtain⟨h1,h2,h3,-⟩:=hp;change cP at l;refine⟨h1,h2,dg.2 ⟨λhA=>?_,λhA=>⟨_,_,rfl,rfl,by rw[mZ,if_neg λh=>hA h.1],by rw[oN,if_neg hA],trivial⟩⟩⟩;obtain⟨h4,hl⟩:=nL hA;have h3:=h3 hA;have ht:=P5 hl h3;simp only[bP,cH,cR,eW,eq_self,true_and,and_true,Nat.sub_zero];refine⟨λh0=>⟨_,_,rfl,rfl,by rw[mZ,if_neg λh=>h.2 ab],by rw[oN,if_pos hA,if_pos ab]⟩,λh0=>⟨h3,hl,tq,List.nodup_nil,ab,⟨0,rfl,rfl,ab,ab⟩,λj hj=>⟨λhlt=>?_,λFG=>?_⟩⟩⟩;have AL:j<(gX l).length:=by exact_mod_cast hlt
 have hc:=YV (b:=[]) (d:=[]) AL;refine⟨⟨ab,hlt⟩,λhe=>⟨⟨ab,hlt⟩,⟨ab,ab⟩,j+1,?_,ab,ab,ab⟩,λhe=>⟨⟨ab,ab⟩,j+1,?_,ab,ab,ab⟩⟩;rw[hc,mX,if_pos (by exact_mod_cast he)];rw[hc,mX,if_neg (by exact_mod_cast he)];have AL:¬j<(gX l).length:=by exact_mod_cast FG
 refine⟨_,_,rfl,rfl,?_,by rw[oN,if_pos hA,if_neg ab]⟩;rw[List.take_of_length_le ab,YM hA ab]
end Go.Tv
namespace Go.Tv
open Go Go.Di Go.Proofs
def acJ(te:cp)(tS:cx)(i:Nat)(k:Nat->br->LA):LA:=
 match te.getD i .unk with
 |.so g _=>match tS.getD g .none with
  |.rows (.int .i64) _ l _=>k g l
  |_=>.un 0
 |_=>.un 0
def oD(l:br)(j:Nat):br:=l.take j++l.getD j 0::l.dropLast.drop j
section
variable {o:br} {j:Nat} {v y:Int}
theorem vu(h:j<=o.length):oD (o++[y]) j=o.take j++(o++[y]).getD j 0::o.drop j:=by rw[oD,List.take_append_of_le_length h,List.dropLast_concat]
theorem LP(h:j<=o.length):(oD (o++[y]) j).length=o.length+1:=by rw[vu h,cn,di,List.length_take,List.length_drop];omega
theorem Yr:oD (o++[0]) o.length=o++[0]:=by rw[vu (ak _)];simp
theorem Ev(h:j<=o.length):(oD (o++[y]) j).set j v=o.take j++v::o.drop j:=by rw[vu h,List.set_append_right _ _ (by rw[List.length_take];omega),List.length_take,Nat.min_eq_left h,Nat.sub_self];rfl
theorem Yq(h:j+1<=o.length):(oD (o++[y]) (j+1)).getD j 0=o.getD j 0:=by rw[vu h,aU,fI (by rw[List.length_take];omega),List.getElem?_take_of_lt ab,<-aU]
theorem Tn(h:j+1<=o.length):(oD (o++[y]) (j+1)).set (j+1) ((oD (o++[y]) (j+1)).getD j 0)=oD (o++[y]) j:=by
 rw[Ev h,Yq h,vu ab,List.take_succ_eq_append_getElem (show j<o.length by omega),nU (show j<o.length by omega),iO];have e:(o++[y]).getD j 0=o[j]:=by rw[aU,fI ab,cq ab];rfl
 have e2:o.getD j 0=o[j]:=by rw[aU,cq ab];rfl
 rw[e,e2];rfl
theorem Yp:(o.take j++v::o.drop j).Perm (v::o):=by
 have:=List.perm_middle (a:=v) (l₁:=o.take j) (l₂:=o.drop j)
 rwa [List.take_append_drop]at this
theorem abN{n:Nat}(hd:o.Nodup)(hb:∀x∈o,0<=x/\x<(n:Int)):(o.take j++(n:Int)::o.drop j).Nodup/\∀x∈o.take j++(n:Int)::o.drop j,0<=x/\x<((n+1:Nat):Int):=by
 have hp:=Yp (o:=o) (j:=j) (v:=(n:Int));refine⟨hp.nodup_iff.2 (List.nodup_cons.2 ⟨λh=>?_,hd⟩),λx hx=>?_⟩;have:=hb _ h;omega
 rcases bE.1 (hp.mem_iff.1 hx)with rfl|h;omega;have:=hb _ h;omega
end
def D68:cp->cp->Dn
 |[.ptr 0 0,.val (.int .i64 n)],[.sl (.int .i64) _ .no,.val (.int .u64 _)]=>some ([1<=n,n<=1000],.ex br λo=>.ex br λr=>.ex Int λz=>.res (.sl bY o .no) (xd r z) [(o.length:Int)=n,o.Nodup,∀x∈o,0<=x/\x<n],
  [(4,.pe 1 (.dep λte tS=>acJ te tS 5 λg _=>.ex Nat λi=>.ex br λo=>.ex br λr=>.ex Int λz=>.st {sl:=[(6,aV i),(5,.so g (.int .i64))],pl:=[(0,xd r z)],mp:=[(g,⟨bY,o⟩)],cQ:=[(i:Int)<=n,o.length=i,o.Nodup,∀x∈o,0<=x/\x<(i:Int)],m:=n.toNat-i})),
   (12,.dep λte tS=>acJ te tS 5 λg l=>Gn te 6 λi=>Gn te 7 λk=>.ex Nat λj=>.st {sl:=[(8,aV j)],mp:=[(g,⟨bY,oD l j⟩)],cQ:=[k<=(j:Int),(j:Int)<=i],m:=j})])
 |_,_=>none
def v68.q1 (p0 p1:Nat)(p2:Prop):Prop:=cR ((↑p0:Int)-1)/\(0<=(↑p0:Int)-1/\(↑p0:Int)-1<(↑p1:Int))/\True/\(0<=(↑p0:Int)/\(↑p0:Int)<(↑p1:Int))/\True/\cR ((↑p0:Int)-1)/\p2
theorem v68:VC T3 Tryz.f68 [some bC] [some bC,some (.int .u64)] D68:=by
 refine lN λa cs=>?_;unfold D68;split
 rotate_left
 trivial;rename_i n r z;intro hp;obtain⟨h1,h2,-⟩:=hp;refine jx (A:=aB (decide (0<n)) ((0:Int)<=1000/\(-10000:Int)<=0/\∀(a:Int)(y:br)(k:Int),0<=a->a<=0\/a=0->1<=1000000000/\(∃(w:Nat),0=(↑w:Int)/\[(0:Int)]=oD [(0:Int)] w/\a<=(↑w:Int)/\(↑w:Int)<=0/\w<1000000)/\∀(w:Nat),a<=(↑w:Int)->(↑w:Int)<=0->aB (decide ((↑w:Int)>a)) (v68.q1 w (oD [(0:Int)] w).length (∃(u:Nat),n=n/\ng bY.den/\(0:Int)=0/\a=a/\(↑w:Int)-1=(↑u:Int)/\(0:Int)=0/\n=n/\true=true/\(0:Int)=0/\a=a/\ng bY.den/\[(0:Int)]=[(0:Int)]/\(0:Int)=0/\y=y/\k=k/\(oD [(0:Int)] w).set w ((oD [(0:Int)] w).getD ((↑w:Int)-1).toNat (0:Int))=oD [(0:Int)] u/\a<=(↑u:Int)/\(↑u:Int)<=0/\u<w)) ((0<=a/\a<(↑(oD [(0:Int)] w).length:Int))/\True/\cR (1:Int)/\(∃(u:Nat),∃(m:br),∃(h:br),∃(s:Int),1=(↑u:Int)/\y=h/\k=s/\(oD [(0:Int)] w).set a.toNat 0=m/\(↑u:Int)<=n/\m.length=u/\m.Nodup/\(∀(x:Int),x∈m->0<=x/\x<(↑u:Int))/\n.toNat-u<1000000)/\∀(a:Nat)(u m:br)(h:Int),(↑a:Int)<=n->u.length=a->u.Nodup->(∀(x:Int),x∈u->0<=x/\x<(↑a:Int))->aB (decide ((↑a:Int)<n)) ((↑a:Int)<=1000/\(-10000:Int)<=(↑a:Int)/\∀(s:Int)(j:br)(g:Int),0<=s->s<=(↑a:Int)\/s=0->u.length+1<=1000000000/\(∃(v:Nat),(↑a:Int)=(↑v:Int)/\u++[(0:Int)]=oD (u++[(0:Int)]) v/\s<=(↑v:Int)/\(↑v:Int)<=(↑a:Int)/\v<1000000)/\∀(v:Nat),s<=(↑v:Int)->(↑v:Int)<=(↑a:Int)->aB (decide ((↑v:Int)>s)) (v68.q1 v (oD (u++[(0:Int)]) v).length (∃(t:Nat),n=n/\ng bY.den/\(↑a:Int)=(↑a:Int)/\s=s/\(↑v:Int)-1=(↑t:Int)/\(↑a:Int)=(↑a:Int)/\n=n/\true=true/\(↑a:Int)=(↑a:Int)/\s=s/\[(0:Int)]=[(0:Int)]/\(↑a:Int)=(↑a:Int)/\j=j/\g=g/\(oD (u++[(0:Int)]) v).set v ((oD (u++[(0:Int)]) v).getD ((↑v:Int)-1).toNat (0:Int))=oD (u++[(0:Int)]) t/\s<=(↑t:Int)/\(↑t:Int)<=(↑a:Int)/\t<v)) ((0<=s/\s<(↑(oD (u++[(0:Int)]) v).length:Int))/\True/\cR ((↑a:Int)+1)/\∃(t:Nat),∃(i:br),∃(f:br),∃(e:Int),n=n/\ng bY.den/\(↑a:Int)+1=(↑t:Int)/\j=f/\g=e/\(oD (u++[(0:Int)]) v).set s.toNat (↑a:Int)=i/\(↑t:Int)<=n/\i.length=t/\i.Nodup/\(∀(x:Int),x∈i->0<=x/\x<(↑t:Int))/\n.toNat-t<n.toNat-a)) (∃(a:br),∃(s:br),∃(j:Int),u=a/\m=s/\h=j/\(↑a.length:Int)=n/\a.Nodup/\(∀(x:Int),x∈a->0<=x/\x<n)/\True))) (∃(a:br),∃(y:br),∃(k:Int),[]=a/\r=y/\z=k/\(↑a.length:Int)=n/\a.Nodup/\(∀(x:Int),x∈a->0<=x/\x<n)/\True)) (by kernel_rfl) ?_;unfold v68.q1;simp only[bP,eW,and_true,true_and,eq_self,cR];refine⟨λ_=>⟨ab,ab,λk r1 z1 h3 h4=>⟨ab,⟨0,rfl,rfl,ab,ab,by first|omega|(dsimp only;omega)⟩,λj h5 h6=>⟨λh=>absurd h ab,λ_=>?_⟩⟩⟩,λh=>absurd h ab⟩;obtain rfl:j=0:=ab
 obtain rfl:k=0:=ab
 refine⟨⟨ab,by simp[oD]⟩,ab,⟨1,[0],r1,z1,rfl,rfl,rfl,rfl,ab,rfl,ae,ae,by first|omega|(dsimp only;omega)⟩,λi o r2 z2 hi hl hd hb=>⟨λoK=>⟨ab,ab,λk r3 z3 h7 h8=>⟨ab,⟨i,rfl,?_,ab,ab,by first|omega|(dsimp only;omega)⟩,λj h9 uG=>⟨λhj=>?_,λhj=>?_⟩⟩⟩,λoK=>?_⟩⟩;· rw[<-hl,Yr]
 have e:=LP (o:=o) (y:=0) (j:=j) ab;obtain⟨m,rfl⟩:∃m,j=m+1:=⟨j-1,ab⟩;refine⟨ab,ab,ab,ab,m,ab,?_,ab,ab,ab⟩;rw[show((↑(m+1):Int)-1).toNat=m by omega];exact Tn ab;have e:=LP (o:=o) (y:=0) (j:=j) ab;obtain⟨m1,m2⟩:=abN (j:=j) hd (n:=i) hb;refine⟨ab,ab,i+1,_,_,_,ab,rfl,rfl,rfl,ab,?_,?_,?_,by first|omega|(dsimp only;omega)⟩;· rw[List.length_set];omega
 rw[show k.toNat=j by omega,Ev ab];exact m1
 rw[show k.toNat=j by omega,Ev ab];exact m2
 exact⟨o,r2,z2,rfl,rfl,rfl,ab,hd,λx hx=>by have:=hb x hx;omega⟩
end Go.Tv
namespace Go.Tv
open Go Go.Di Go.Proofs
theorem Md:∀(l:br)(c:Int),(∀x∈l,c<=x/\x<=3)->l.Pairwise (·<·)->(l.length:Int)<=max 0 (4-c)
 |[],c,_,_=>by simp;omega
 |x::l,c,h,hp=>by have h1:=h x ae;rw[List.pairwise_cons]at hp;have h2:=Md l (x+1) (λy hy=>⟨hp.1 y hy,(h y (by simp[hy])).2⟩) hp.2;rw[di];omega
theorem q_len4{u l q:br}{w:Int}(h:Ok u l w q):q.length<=4:=by have:=Md q 0 h.CH h.U4;omega
def K1:eM:=T6.mB 68 λa c=>dS (D68 a c)
def ahg(te:cp)(k:br->LA):LA:=
 match te.getD 6 .unk with
 |.sl (.int .i64) l _=>k l
 |_=>.un 0
def aeY:cp->cp->Dn
 |[.ptr 0 0,.sl (.pair (.sl (.int .i64)) (.pair (.sl (.int .i64)) (.pair (.int .i64) (.pair (.sl (.int .i64)) .unit)))) ps .no],[.sl (.int .i64) _ .no,.val (.int .u64 _)]=>some ([1<=ps.length,ps.length<=4,∀p∈ps,iA p],.ex (List bn.den) λs=>.ex br λr=>.ex Int λz=>.res (.sl bn s .no) (xd r z) [1<=s.length,s.length<=ps.length],
  [(5,.dep λte tS=>ahg te λo=>Gn te 7 λk=>.ex Nat λm=>.ex (List bn.den) λs=>.ex br λr=>.ex Int λz=>.st {sl:=[(5,.sl bn s (.iT tS.length)),(7,aV ((m:Int)-1))],pl:=[(0,xd r z)],own:=[(81,3)],cQ:=[(m:Int)<=k+1,(s.length+m:Int)=k+1],m:=m})])
 |_,_=>none
def Ik.q1 (p0:List bn.den)(p1:Nat)(p2:List (aF).den)(p3:br)(p4:Int)(p5:br)(p6 p7 p8:Int):Prop:=p0.length+1<=1000000000/\cR ((↑p1:Int)-1-1)/\∃(a:Nat),∃(x:List bn.den),∃(y:br),∃(z:Int),p2=p2/\ng bn.den/\p0++[(p3.getD ((↑p1:Int)-1).toNat (0:Int),List.getD (p2.getD (Int.toNat (p3.getD ((↑p1:Int)-1).toNat (0:Int))) bm).2.2.2.1 p4.toNat (0:Int),p8,())]=x/\p3=p3/\(↑p1:Int)-1-1=(↑a:Int)-1/\p5=y/\p6=z/\(↑a:Int)<=p7+1/\(↑x.length:Int)+(↑a:Int)=p7+1/\a<p1
def Ik.q2 (p0:Nat)(p1:Prop):Prop:=cR ((↑p0:Int)-1)/\(↑p0:Int)-1<=1000/\(-10000:Int)<=(↑p0:Int)-1/\p1
theorem Ik:VC K1 Tryz.f27 [some (.sl bn)] [some bC,some (.int .u64)] aeY:=by
 refine lN λa cs=>?_;unfold aeY;split
 rotate_left
 trivial;rename_i ps r z;intro hp;obtain⟨h1,h2,h3,-⟩:=hp;refine jx (A:=1<=(↑ps.length:Int)/\(↑ps.length:Int)<=1000/\∀(a y:br)(d:Int),(↑a.length:Int)=(↑ps.length:Int)->a.Nodup->(∀(x:Int),x∈a->0<=x/\x<(↑ps.length:Int))->Ik.q2 ps.length (∀(u:Int)(j:br)(i:Int),0<=u->u<=(↑ps.length:Int)-1\/u=0->(∃(a:Nat),∃(z:List bn.den),∃(w:br),∃(s:Int),[]=z/\u=(↑a:Int)-1/\j=w/\i=s/\(↑a:Int)<=u+1/\(↑z.length:Int)+(↑a:Int)=u+1/\a<1000000)/\∀(z:Nat)(w:List bn.den)(s:br)(h:Int),(↑z:Int)<=u+1->(↑w.length:Int)+(↑z:Int)=u+1->aB (decide ((↑z:Int)-1>=0)) ((0<=(↑z:Int)-1/\(↑z:Int)-1<(↑a.length:Int))/\(0<=a.getD ((↑z:Int)-1).toNat (0:Int)/\a.getD ((↑z:Int)-1).toNat 0<(↑ps.length:Int))/\(0<=(↑z:Int)-1/\(↑z:Int)-1<(↑a.length:Int))/\Ik.q2 (List.length (ps.getD (Int.toNat (a.getD ((↑z:Int)-1).toNat (0:Int))) bm).2.2.2.1) (∀(v:Int)(t:br)(g:Int),0<=v->v<=(↑(List.length (ps.getD (Int.toNat (a.getD ((↑z:Int)-1).toNat (0:Int))) bm).2.2.2.1):Int)-1\/v=0->(0<=v/\v<(↑(List.length (ps.getD (Int.toNat (a.getD ((↑z:Int)-1).toNat (0:Int))) bm).2.2.2.1):Int))/\(-1000:Int)<=(-2:Int)/\(-2:Int)<=1000/\(-1000:Int)<=2/\(2:Int)<=998/\(2:Int)<=5000/\∀(r:Int)(f:br)(e:Int),(-2:Int)<=r->r<=2\/r=(-2:Int)->0<3/\3<=1000/\∀(m:Int)(n:br)(k:Int),m∈[(0:Int),(0:Int),r]->aB ((↑w.length:Int)==0) (Ik.q1 w z ps a v n k u (0:Int)) (Ik.q1 w z ps a v n k u m))) (∃(a:List bn.den),∃(v:br),∃(t:Int),w=a/\s=v/\h=t/\1<=a.length/\a.length<=ps.length/\True))) (by kernel_rfl) ?_;unfold Ik.q2 Ik.q1;simp only[bP,cH,eW,and_true,true_and,eq_self,cR];refine⟨ab,ab,λo r1 z1 hl _ hb=>⟨ab,ab,ab,λk r2 z2 k1 k2=>⟨⟨(k+1).toNat,[],r2,z2,rfl,ab,rfl,rfl,ab,by simp only[lB];omega,by first|omega|(dsimp only;omega)⟩,λm s r3 z3 m1 m2=>⟨λhm=>?_,λhm=>?_⟩⟩⟩⟩
 .have e1:((m:Int)-1).toNat=m-1:=ab
  have hlt:m-1<o.length:=ab
  have ho:o.getD (m-1) 0∈o:=ot hlt;rw[e1];have hbi:=hb _ ho
  revert hbi
  generalize o.getD (m-1) 0=i;intro hbi;have hi:i.toNat<ps.length:=ab
  have hp:iA (ps.getD i.toNat bm):=h3 _ (by rw[aU,cq hi];exact nQ hi);have hq:=q_len4 hp;have hne:=List.length_pos_iff.2 hp.ne;refine⟨⟨ab,ab⟩,⟨ab,ab⟩,⟨ab,ab⟩,⟨ab,ab⟩,ab,ab,λk2 r4 z4 h4 h5=>⟨⟨ab,ab⟩,ab,ab,ab,ab,ab,λk3 r5 z5 h6 h7=>⟨ab,ab,λv r6 z6 _=>?_⟩⟩⟩;refine⟨λh9=>⟨ab,ab,m-1,_,_,_,rfl,ab,rfl,rfl,ab,?_,ab⟩,λh9=>⟨ab,ab,m-1,_,_,_,rfl,ab,rfl,rfl,ab,?_,ab⟩⟩;rw[cn,pG];omega
  rw[cn,pG];omega
 exact⟨s,r3,z3,rfl,rfl,rfl,ab,ab⟩
end Go.Tv
