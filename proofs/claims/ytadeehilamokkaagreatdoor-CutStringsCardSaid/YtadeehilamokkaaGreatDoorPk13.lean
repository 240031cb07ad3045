import Derived.Test.YtadeehilamokkaaGreatDoorPk12
import Derived.Laws.Strings
set_option maxHeartbeats 1000000
set_option maxRecDepth 100000
namespace Go.Tv
open Go Go.Di Go.Proofs
def pq:List (List UInt8)->Option PD
 |[a,b,c,d]=>if(nU a).2&&(nU b).2&&(nU c).2&&(nU d).2&&((nU c).1.length==1)then some ((nU a).1,(nU b).1,(nU c).1.getD 0 0,(nU d).1,())else none
 |_=>none
theorem zA{L:List (List UInt8)}(h:L.length≠4):pq L=none:=by
 match L,h with
 |[],_|[_],_|[_,_],_|[_,_,_],_=>rfl
 |[_,_,_,_],h=>exact absurd rfl h
 |_::_::_::_::_::_,_=>rfl
theorem zx(l:List UInt8):(pS l).data.toList=l:=by simp[pS]
theorem Em{l:List UInt8}{o:cj}{b:Bool}(h:nU l=(o,b)):o.length<=l.length:=by
 unfold nU at h;split at h;cases h;simp[wG]
 cases h;simp
theorem abE{l:List UInt8}{o:cj}(h:nU l=(o,true)):0<o.length:=by
 unfold nU at h;split at h;simp only[az]at h;obtain⟨rfl,h2⟩:=h;cases l with
 |nil=>simp at h2
 |cons a l=>simp[wG]
 cases h
def U2:ij:=(T0.jF 54 λa=>dS (D54 a)).jF 93 λa=>dS (D93 a)
def D55:cp->Dn
 |[.val (.string s)]=>some ([s.size<=1000],.ex cj λu=>.ex cj λl=>.ex Int λw=>.ex cj λq=>.ex Bool λb=>.res (.tup [pcV u l w q,tQ b]) [] [(if b then some (u,l,w,q,())else none)=pq (kB 47 s.data.toList),u.length<=1000,l.length<=1000,q.length<=1000],
  [(8,.un 5)])
 |_=>none
def v55.q1 (p0:ByteArray)(p1 p2:cj)(p3:Int)(p4:cj)(p5:Bool)(p6:Option (cj×cj×Int×cj×Unit))(p7:Prop):Prop:=[]=p1/\[]=p2/\0=p3/\[]=p4/\false=p5/\p6=pq (kB (47:Int) p0.data.toList)/\p1.length<=1000/\p2.length<=1000/\p4.length<=1000/\p7
def v55.q2 (p0:ByteArray):Prop:=∃(a:cj),∃(a_1:cj),∃(a_2:Int),∃(a_3:cj),∃(a_4:Bool),v55.q1 p0 a a_1 a_2 a_3 a_4 (if a_4=true then some (a,a_1,a_2,a_3,())else none) True
def v55.q3 (p0:Int)(p1:Nat):Prop:=0<=p0/\p0<(↑p1:Int)
theorem v55:VI U2 Tryz.f55 [some cE,some .bool] D55:=by
 refine nC λa=>?_;unfold D55;split
 rotate_left
 trivial;rename_i s;change ByteArray at s;intro hp;refine Ah (A:=s.size<=1000/\∀(a:List ByteArray),a=List.map pS (kB (47:Int) s.data.toList)->bM ((↑a.length:Int) !=4) (v55.q2 s) (v55.q3 (0:Int) a.length/\ByteArray.size (a.getD 0 ByteArray.empty)<=1000/\∀(x:cj)(r:Bool),nU (a.getD 0 ByteArray.empty).data.toList=(x,r)->bM (!r) (v55.q2 s) (0+1<=1000000000/\jC (1:Int)/\v55.q3 (1:Int) a.length/\ByteArray.size (a.getD 1 ByteArray.empty)<=1000/\∀(t:cj)(m:Bool),nU (a.getD 1 ByteArray.empty).data.toList=(t,m)->bM (!m) (v55.q2 s) (1+1<=1000000000/\jC (2:Int)/\v55.q3 (2:Int) a.length/\ByteArray.size (a.getD 2 ByteArray.empty)<=1000/\∀(y:cj)(n:Bool),nU (a.getD 2 ByteArray.empty).data.toList=(y,n)->bM (!n) (v55.q2 s) (2+1<=1000000000/\jC (3:Int)/\v55.q3 (3:Int) a.length/\ByteArray.size (a.getD 3 ByteArray.empty)<=1000/\∀(k:cj)(j:Bool),nU (a.getD 3 ByteArray.empty).data.toList=(k,j)->bM (!j) (v55.q2 s) (3+1<=1000000000/\jC (4:Int)/\v55.q3 (0:Int) 4/\v55.q3 (1:Int) 4/\v55.q3 (2:Int) 4/\v55.q3 (0:Int) y.length/\v55.q3 (3:Int) 4/\v55.q3 (2:Int) 4/\∃(a:cj),∃(u:cj),∃(v:Int),∃(z:cj),∃(w:Bool),x=a/\t=u/\y.getD 0 0=v/\k=z/\((↑y.length:Int)==1)=w/\(if w=true then some (a,u,v,z,())else none)=pq (kB (47:Int) s.data.toList)/\a.length<=1000/\u.length<=1000/\z.length<=1000/\True)))))) (by kernel_rfl) ?_;unfold v55.q3 v55.q2 v55.q1;have h1:=hp.1;have F:pq (kB 47 s.data.toList)=none->∃(u l:cj)(w:Int)(q:cj)(b:Bool),[]=u/\[]=l/\(0:Int)=w/\[]=q/\false=b/\(if b=true then some (u,l,w,q,())else none)=pq (kB 47 s.data.toList)/\u.length<=1000/\l.length<=1000/\q.length<=1000/\True:=λh=>⟨[],[],0,[],false,rfl,rfl,rfl,rfl,rfl,by rw[h];rfl,ae,ae,ae,trivial⟩;have hel:=As 47 s.data.toList;have hs:=vg s;generalize hL:kB 47 s.data.toList=L at*;refine⟨h1,λw hw=>j9.2 ⟨λh4=>?_,λh4=>F (zA λh=>h4 (by rw[hw,List.length_map,h];rfl))⟩⟩;obtain⟨a,b,c,d,rfl⟩:∃a b c d,L=[a,b,c,d]:=by
  rw[hw,List.length_map]at h4
  match L,h4 with
  |[a,b,c,d],_=>exact⟨a,b,c,d,rfl⟩
 subst hw;simp only[aV,ek,or_false]at hel;have ha:=hel a (.inl rfl);have hb:=hel b (.inr (.inl rfl));have hc:=hel c (.inr (.inr (.inl rfl)));have hd:=hel d (.inr (.inr (.inr rfl)));simp only[aZ,dR,List.getD_cons_zero,List.getD_cons_succ,cT,gr,zx,jj,jC,j8];refine⟨ab,ab,λn1 b1 e1=>iZ.2 ⟨λt1=>?_,λt1=>F (by simp[pq,e1,t1])⟩⟩;refine⟨ab,ab,ab,ab,λn2 b2 e2=>iZ.2 ⟨λt2=>?_,λt2=>F (by simp[pq,e2,t2])⟩⟩;refine⟨ab,ab,ab,ab,λn3 b3 e3=>iZ.2 ⟨λt3=>?_,λt3=>F (by simp[pq,e3,t3])⟩⟩;refine⟨ab,ab,ab,ab,λn4 b4 e4=>iZ.2 ⟨λt4=>?_,λt4=>F (by simp[pq,e4,t4])⟩⟩;subst t1 t2 t3 t4;have l1:=Em e1;have l2:=Em e2;have l3:=abE e3;have l4:=Em e4;refine⟨ab,ab,ab,ab,ab,ab,ab,ab,_,_,_,_,_,rfl,rfl,rfl,rfl,rfl,?_,ab,ab,ab,trivial⟩;rw[pq,e1,e2,e3,e4];by_cases h:n3.length=1;simp[h];have:((n3.length:Int)==1)=false:=by simp;omega
 simp[this,h]
theorem Re:∀{l:cP},rX l=0->∀p∈l,U6 p
 |[],_,_,h=>ar
 |q::l,h,p,hp=>by
  rw[rX]at h;split at h;rename_i h1;exact absurd h h1
  rename_i h1;rcases aV.1 hp with rfl|hp;exact afG.1 (Classical.not_not.1 h1);exact Re h p hp
theorem Rf{l:cP}(h:qa l=0):l.length<=4/\∀p∈l,U6 p:=by unfold qa at h;split at h;exact absurd h ao;exact⟨ab,Re h⟩
def Gn(p:PD):List UInt8:=rW p.1++(47::(rW p.2.1++(47::(rW [p.2.2.1]++(47::rW p.2.2.2.1)))))
def je(l:cP):List UInt8:=l.flatMap λp=>Gn p++[10]
theorem OR(l m:cP):je (l++m)=je l++je m:=List.flatMap_append
theorem Mz{l:cP}{i:Nat}{d:PD}(h:i<l.length):je (l.take (i+1))=je (l.take i)++(Gn (l.getD i d)++[10]):=by rw[List.take_add_one,OR,aT h,aK,aT h];simp[je]
theorem xQ:∀{l:cP},(∀p∈l,gE p)->(je l).length<=4000*l.length
 |[],_=>by simp[je]
 |p::l,h=>by
  have ih:=xQ (l:=l) λq hq=>h q (by simp[hq]);obtain⟨a,b,c⟩:=h p ae;have e:je (p::l)=Gn p++[10]++je l:=by simp[je]
  rw[e,cL,cL,Gn];simp only[cL,cT,pN,gr]at*;omega
def j7(l:cP):ByteArray×Int:=if qa l=0 then(pS (je l),0)else(pS [],qa l)
def U3:ij:=(T0.jF 50 λa=>dS (D51 a)).jF 51 λa=>dS (aeu a)
def aaL:cp->Dn
 |[.sl (.pair (.sl (.int .i64)) (.pair (.sl (.int .i64)) (.pair (.int .i64) (.pair (.sl (.int .i64)) .unit)))) l .no]=>some ([l.length<=1000,∀p∈l,gE p],.ex ByteArray λb=>.ex Int λe=>.res (.tup [M9 b,jE e]) [] [j7 l=(b,e)],
  [(8,.ex Nat λi=>.ex ByteArray λb=>.st {sl:=[(5,M9 b),(6,jE i)],gV:=[i<=l.length,b=pS (je (l.take i))],m:=l.length-i})])
 |_=>none
def vX.q1 (p0 p1:ByteArray)(p2:Prop):Prop:=(↑(p0.size+p1.size):Int)<=9223372036854775807/\(↑((p0++p1).size+1):Int)<=9223372036854775807/\p2
def vX.q2 (p0:cP)(p1 p2:ByteArray)(p3:Int)(p4 p5:Nat):Prop:=Value.string p1=Value.string p2/\p3=(↑p4:Int)/\p4<=p0.length/\p2=pS (je (List.take p4 p0))/\(p0.length-p4)<p5
def vX.q3 (p0:fH.den)(p1:Prop):Prop:=List.length p0<=1000/\MU p0/\p1
theorem vX:VI U3 Tryz.f11 [some .str,some kP] aaL:=by
 refine nC λa=>?_;unfold aaL;split
 rotate_left
 trivial;rename_i l;change cP at l;intro hp;refine Ah (A:=l.length<=1000/\(∀(p:(cE).den),p∈l->gE p)/\bM (qa l !=0) (∃(a:ByteArray),∃(x:Int),Value.string ({data:=#[]}:ByteArray)=Value.string a/\qa l=x/\j7 l=(a,x)/\True) ((∃(a:Nat),∃(x:ByteArray),vX.q2 l ({data:=#[]}:ByteArray) x (0:Int) a 1000000)/\∀(a:Nat)(x:ByteArray),a<=l.length->x=pS (je (List.take a l))->bM (decide ((↑a:Int)<(↑l.length:Int))) ((0<=(↑a:Int)/\(↑a:Int)<(↑l.length:Int))/\vX.q3 (l.getD a bo).1 (∀(y:ByteArray),y=pS (rW (l.getD a bo).1)->vX.q1 x y (vX.q3 (l.getD a bo).2.1 (∀(z:ByteArray),z=pS (rW (l.getD a bo).2.1)->vX.q1 (x++y++({data:=#[(47:UInt8)]}:ByteArray)) z (1<=1000/\MU [(l.getD a bo).2.2.1]/\∀(u:ByteArray),u=pS (rW [(l.getD a bo).2.2.1])->vX.q1 (x++y++({data:=#[(47:UInt8)]}:ByteArray)++z++({data:=#[(47:UInt8)]}:ByteArray)) u (vX.q3 (l.getD a bo).2.2.2.1 (∀(v:ByteArray),v=pS (rW (l.getD a bo).2.2.2.1)->vX.q1 (x++y++({data:=#[(47:UInt8)]}:ByteArray)++z++({data:=#[(47:UInt8)]}:ByteArray)++u++({data:=#[(47:UInt8)]}:ByteArray)) v (jC ((↑a:Int)+1)/\∃(w:Nat),∃(r:ByteArray),l=l/\Value.string ({data:=#[]}:ByteArray)=Value.string ({data:=#[]}:ByteArray)/\(0:Int)=0/\vX.q2 l (x++y++({data:=#[(47:UInt8)]}:ByteArray)++z++({data:=#[(47:UInt8)]}:ByteArray)++u++({data:=#[(47:UInt8)]}:ByteArray)++v++({data:=#[(10:UInt8)]}:ByteArray)) r ((↑a:Int)+1) w (l.length-a))))))))) (∃(a:ByteArray),∃(y:Int),Value.string x=Value.string a/\0=y/\j7 l=(a,y)/\True))) (by kernel_rfl) ?_;unfold vX.q3 vX.q2 vX.q1;obtain⟨h1,h2,-⟩:=hp;refine⟨h1,h2,j9.2 ⟨λh0=>?_,λh0=>⟨_,_,rfl,rfl,by rw[j7,if_neg h0];rfl,trivial⟩⟩⟩;have jU:=Rf h0;simp only[eS,jC,and_true,true_and,eq_self];refine⟨⟨0,_,rfl,rfl,ab,rfl,by first|omega|(dsimp only;omega)⟩,λi b k1 k2=>⟨λk3=>?_,λk3=>⟨_,_,rfl,rfl,by rw[j7,if_pos h0,k2,show i=l.length by omega,gN]⟩⟩⟩;have hi:i<l.length:=by omega
 have o:=rD (P:=U6) (d:=([],[],(0:Int),[],())) hi jU.2;have sh:=rD (P:=gE) (d:=([],[],(0:Int),[],())) hi h2;have hz:=xQ (l:=l.take i) λp hp=>h2 p (vC hp);have ht:=Mz (d:=([],[],(0:Int),[],())) hi;rw[List.length_take]at hz;obtain⟨p,hp⟩:∃p,l.getD i ([],[],(0:Int),[],())=p:=⟨_,rfl⟩;rw[hp]at o sh ht⊢;clear hp;obtain⟨u,lo,w,q,z⟩:=p;obtain⟨s1,s2,s3⟩:=sh;simp only at s1 s2 s3;have c47:({data:=#[47]}:ByteArray)=pS [47]:=rfl;have c10:({data:=#[10]}:ByteArray)=pS [10]:=rfl;have ow:=o.w0;have ow2:=o.w2;simp only at ow ow2;subst k2;refine⟨⟨ab,ab⟩,s1,o.hu,?_⟩;rintro _ rfl;simp only[c47,c10,vq,jj,cL,pN,vE];refine⟨ab,ab,s2,o.hl,?_⟩;rintro _ rfl;simp only[vq,jj,cL,pN,vE];refine⟨ab,ab,ab,λx hx=>by rw[bX.1 hx];omega,?_⟩;rintro _ rfl;simp only[vq,jj,cL,pN,vE];refine⟨ab,ab,s3,λx hx=>by have:=o.lie x hx;omega,?_⟩;rintro _ rfl;simp only[vq,jj,cL,pN,vE];refine⟨ab,ab,⟨ab,ab⟩,i+1,_,rfl,ab,ab,?_,by first|omega|(dsimp only;omega)⟩;rw[ht,Gn];simp only[qA,gM,gu]
end Go.Tv
namespace Go.Tv
open Go Go.Di Go.Proofs
def Ug(p:PD):Bool:=decide (p.1.length<=20/\p.2.1.length<=20/\p.2.2.2.1.length<=20)
theorem abg{l:cP}{i:Nat}{d:PD}(h:i<l.length)(h1:(l.take i).all Ug=true)(h2:Ug (l.getD i d)=true):(l.take (i+1)).all Ug=true:=by
 have e:l.getD i d=l[i]:=by simp[aK,h]
 rw[e]at h2;rw[<-List.take_append_getElem h,lU,h1,cg,h2];rfl
theorem NG{l:cP}{i:Nat}{d:PD}(h:i<l.length)(h2:Ug (l.getD i d)=false):l.all Ug=false:=by
 have e:l.getD i d=l[i]:=by simp[aK,h]
 rw[e]at h2;refine Bool.eq_false_iff.2 λh1=>?_;rw[aU.1 h1 _ (iS h)]at h2;cases h2
def D18:cp->Dn
 |[.sl (.pair (.sl (.int .i64)) (.pair (.sl (.int .i64)) (.pair (.int .i64) (.pair (.sl (.int .i64)) .unit)))) l .no]=>some ([],.ex Bool λb=>.res (tQ b) [] [b=(decide (l.length<=20)&&l.all Ug)],[(3,.ex Nat λi=>.st {sl:=[(3,jE i)],gV:=[i<=l.length,i<=20,(l.take i).all Ug=true],m:=20-i})])
 |_=>none
def v18.q1 (p0:List (cE).den)(p1:Bool):Prop:=∃(a:Bool),p1=a/\a=(decide (p0.length<=20)&&p0.all Ug)/\True
def v18.q2 (p0:List (cE).den)(p1:Int)(p2 p3:Nat):Prop:=p1=(↑p2:Int)/\p2<=p0.length/\p2<=20/\(List.take p2 p0).all Ug=true/\(20-p2)<p3
theorem v18:VI T0 Tryz.f6 [some .bool] D18:=by
 refine nC λa=>?_;unfold D18;split
 rotate_left
 trivial;rename_i l;intro hp;refine Ah (A:=(∃(a:Nat),v18.q2 l (0:Int) a 1000000)/\∀(a:Nat),a<=l.length->a<=20->(List.take a l).all Ug=true->bM (decide ((↑a:Int)<(↑l.length:Int))) (bM (decide ((↑a:Int)<20)) ((0<=(↑a:Int)/\(↑a:Int)<(↑l.length:Int))/\bM (decide ((↑(List.length (l.getD a bo).1):Int)>20)) (v18.q1 l false) ((0<=(↑a:Int)/\(↑a:Int)<(↑l.length:Int))/\bM (decide ((↑(List.length (l.getD a bo).2.1):Int)>20)) (v18.q1 l false) ((0<=(↑a:Int)/\(↑a:Int)<(↑l.length:Int))/\bM (decide ((↑(List.length (l.getD a bo).2.2.2.1):Int)>20)) (v18.q1 l false) (jC ((↑a:Int)+1)/\∃(x:Nat),l=l/\v18.q2 l ((↑a:Int)+1) x (20-a))))) (v18.q1 l (decide ((↑l.length:Int)<=20)))) (v18.q1 l (decide ((↑l.length:Int)<=20)))) (by kernel_rfl) ?_;unfold v18.q2 v18.q1;change cP at l;simp only[eS,lP,j9,j8,og,jC,and_true,true_and,eq_self];refine⟨⟨0,rfl,ab,ab,rfl,ab⟩,λi k1 k2 k3=>⟨λk4=>⟨λk5=>⟨ab,λk6=>⟨_,rfl,?_⟩,λk6=>⟨ab,λk7=>⟨_,rfl,?_⟩,λk7=>⟨ab,λk8=>⟨_,rfl,?_⟩,λk8=>⟨ab,i+1,ab,ab,ab,abg (d:=bo) ab k3 (lT ⟨ab,ab,ab⟩),ab⟩⟩⟩⟩,λk5=>⟨_,rfl,?_⟩⟩,λk4=>⟨_,rfl,?_⟩⟩⟩;rw[NG (i:=i) (d:=bo) ab (iP λh=>ab),kM];rw[NG (i:=i) (d:=bo) ab (iP λh=>ab),kM];rw[NG (i:=i) (d:=bo) ab (iP λh=>ab),kM];rw[iP ab,iP ab];rfl
 rw[show i=l.length by omega,gN]at k3;rw[k3,qx,decide_eq_decide];omega
abbrev dP:PD:=([],[],(0:Int),[],())
theorem P7{α:Type}(d:α){l:List α}{i:Nat}(h:i<l.length):l.take (i+1)=l.take i++[l.getD i d]:=by rw[List.take_add_one,aT h];simp[aK,h]
theorem aha{p q:PD}:(p.1=q.1/\p.2.1=q.2.1/\p.2.2.1=q.2.2.1/\p.2.2.2.1=q.2.2.2.1)↔p=q:=by obtain⟨a,b,c,d,_⟩:=p;obtain⟨a',b',c',d',_⟩:=q;simp
def D25:cp->Dn
 |[.sl (.int .i64) l .no,.sl (.int .i64) m .no]=>some ([l.length<=1000,m.length<=1000],.res (tQ (decide (l=m))) [] [],[(4,.ex Nat λi=>.ex Bool λb=>.st {sl:=[(5,tQ b),(6,jE i)],gV:=[i<=l.length,b=decide (l.length=m.length/\l.take i=m.take i)],m:=l.length-i})])
 |_=>none
def v25.q1 (p0:List kP.den)(p1:Int)(p2:Nat)(p3 p4:Bool)(p5:Nat):Prop:=p1=(↑p2:Int)/\p2<=p0.length/\p3=p4/\(p0.length-p2)<p5
theorem v25:VI T0 Tryz.f23 [some .bool] D25:=by
 refine nC λa=>?_;unfold D25;split
 rotate_left
 trivial;rename_i l m;intro hp;refine Ah (A:=(∃(a:Nat),∃(x:Bool),((↑l.length:Int)==(↑m.length:Int))=x/\v25.q1 l (0:Int) a x (decide (l.length=m.length/\List.take a l=List.take a m)) 1000000)/\∀(a:Nat)(x:Bool),a<=l.length->x=decide (l.length=m.length/\List.take a l=List.take a m)->bM x (bM (decide ((↑a:Int)<(↑l.length:Int))) ((0<=(↑a:Int)/\(↑a:Int)<(↑l.length:Int))/\(0<=(↑a:Int)/\(↑a:Int)<(↑m.length:Int))/\jC ((↑a:Int)+1)/\∃(y:Nat),∃(z:Bool),l=l/\m=m/\false=false/\(l.getD a 0==m.getD a 0)=z/\v25.q1 l ((↑a:Int)+1) y z (decide (l.length=m.length/\List.take y l=List.take y m)) (l.length-a)) (x=decide (l=m)/\True)) (x=decide (l=m)/\True)) (by kernel_rfl) ?_;unfold v25.q1;obtain⟨h1,h2,-⟩:=hp;simp only[eS,lP,jC,and_true,true_and,eq_self];refine⟨⟨0,_,rfl,rfl,ab,?_,ab⟩,λi b h3 h4=>?_⟩;rw[Bool.eq_iff_iff];simp;omega
 rw[iZ];subst h4;simp only[bR,decide_eq_false_iff_not];refine⟨λh5=>⟨λh6=>⟨ab,ab,ab,i+1,_,rfl,ab,ab,?_,ab⟩,λh6=>?_⟩,λh5=>?_⟩;rw[Bool.eq_iff_iff,bR,take_one ab,take_one ab,dQ];refine⟨λh=>⟨h5.1,by rw[h5.2,h]⟩,λh=>?_⟩;have:=List.append_inj_right' h.2 rfl;simpa using this;rw[decide_eq_decide];have e1:=h5.2;rw[List.take_of_length_le ab,List.take_of_length_le ab]at e1;exact⟨λ_=>e1,λh=>h5⟩;rw[decide_eq_decide];exact⟨λh=>absurd h h5,λh=>by subst h;exact absurd ⟨rfl,rfl⟩ h5⟩
def R7:ij:=T0.jF 23 λa=>dS (D25 a)
def D26:cp->Dn
 |[.agg [.sl (.int .i64) au .no,.sl (.int .i64) al .no,.val (.int .i64 aw),.sl (.int .i64) aq .no],.agg [.sl (.int .i64) bu .no,.sl (.int .i64) bl .no,.val (.int .i64 bw),.sl (.int .i64) bq .no]]=>some ([Sh au al aq,Sh bu bl bq],.res (tQ (decide (au=bu/\al=bl/\aw=bw/\aq=bq))) [] [],[])
 |_=>none
theorem v26:VI R7 Tryz.f37 [some .bool] D26:=by
 refine nC λa=>?_;unfold D26;split
 rotate_left
 trivial;rename_i u l w ls u2 l2 w2 ls2;intro hp;refine Ah (A:=u.length<=1000/\u2.length<=1000/\bM (decide (u=u2)) (l.length<=1000/\l2.length<=1000/\bM (decide (l=l2)) (bM (w==w2) (ls.length<=1000/\ls2.length<=1000/\decide (ls=ls2)=decide (u=u2/\l=l2/\w=w2/\ls=ls2)/\True) (false=decide (u=u2/\l=l2/\w=w2/\ls=ls2)/\True)) (false=decide (u=u2/\l=l2/\w=w2/\ls=ls2)/\True)) (false=decide (u=u2/\l=l2/\w=w2/\ls=ls2)/\True)) (by kernel_rfl) ?_;obtain⟨⟨a1,a2,a3⟩,⟨b1,b2,b3⟩,-⟩:=hp;simp only[eS,lP,and_true];refine⟨a1,b1,λh1=>⟨a2,b2,λh2=>⟨λh3=>⟨a3,b3,?_⟩,λh3=>?_⟩,λh2=>?_⟩,λh1=>?_⟩;rw[decide_eq_decide];exact⟨λh=>⟨h1,h2,h3,h⟩,λh=>h.2.2.2⟩
 rw[iP λh=>h3 h.2.2.1];rw[iP λh=>h2 h.2.1];rw[iP λh=>h1 h.1]
def R8:ij:=T0.jF 37 λa=>dS (D26 a)
def aev:cp->Dn
 |[.sl (.pair (.sl (.int .i64)) (.pair (.sl (.int .i64)) (.pair (.int .i64) (.pair (.sl (.int .i64)) .unit)))) l .no,.sl (.pair (.sl (.int .i64)) (.pair (.sl (.int .i64)) (.pair (.int .i64) (.pair (.sl (.int .i64)) .unit)))) m .no]=>some ([l.length<=1000,m.length<=1000,∀p∈l,gE p,∀p∈m,gE p],.ex Bool λb=>.res (tQ b) [] [b=true↔l=m],
  [(4,.ex Nat λi=>.ex Bool λb=>.st {sl:=[(5,tQ b),(6,jE i)],gV:=[i<=l.length,b=true↔(l.length=m.length/\l.take i=m.take i)],m:=l.length-i})])
 |_=>none
def U8.q1 (p0 p1:cP)(p2 p3:Bool)(p4:Int)(p5 p6:Nat):Prop:=p2=p3/\p4=(↑p5:Int)/\p5<=p0.length/\(p3=true↔p0.length=p1.length/\List.take p5 p0=List.take p5 p1)/\(p0.length-p5)<p6
theorem U8:VI R8 Tryz.f16 [some .bool] aev:=by
 refine nC λa=>?_;unfold aev;split
 rotate_left
 trivial;rename_i l m;change cP at l m;intro hp;refine Ah (A:=(∃(a:Nat),∃(x:Bool),U8.q1 l m ((↑l.length:Int)==(↑m.length:Int)) x (0:Int) a 1000000)/\∀(a:Nat)(x:Bool),a<=l.length->(x=true↔l.length=m.length/\List.take a l=List.take a m)->bM x (bM (decide ((↑a:Int)<(↑l.length:Int))) ((0<=(↑a:Int)/\(↑a:Int)<(↑l.length:Int))/\(0<=(↑a:Int)/\(↑a:Int)<(↑m.length:Int))/\Sh (l.getD a bo).1 (l.getD a bo).2.1 (l.getD a bo).2.2.2.1/\Sh (m.getD a bo).1 (m.getD a bo).2.1 (m.getD a bo).2.2.2.1/\jC ((↑a:Int)+1)/\∃(y:Nat),∃(z:Bool),l=l/\m=m/\false=false/\U8.q1 l m (decide ((l.getD a bo).1=(m.getD a bo).1/\(l.getD a bo).2.1=(m.getD a bo).2.1/\(l.getD a bo).2.2.1=(m.getD a bo).2.2.1/\(l.getD a bo).2.2.2.1=(m.getD a bo).2.2.2.1)) z ((↑a:Int)+1) y (l.length-a)) (∃(a:Bool),x=a/\(a=true↔l=m)/\True)) (∃(a:Bool),x=a/\(a=true↔l=m)/\True)) (by kernel_rfl) ?_;unfold U8.q1;obtain⟨h1,h2,s1,s2,-⟩:=hp;refine⟨⟨0,_,rfl,rfl,ab,by simp;omega,by first|omega|(dsimp only;omega)⟩,λi b h3 h4=>iZ.2 ⟨λh5=>eS.2 ⟨λh6=>?_,λh6=>⟨_,rfl,?_,trivial⟩⟩,λh5=>⟨_,rfl,?_,trivial⟩⟩⟩;.have h5:=h4.1 h5;refine⟨⟨ab,ab⟩,⟨ab,ab⟩,rD ab s1,rD ab s2,⟨ab,ab⟩,i+1,_,rfl,rfl,rfl,rfl,ab,ab,?_,by first|omega|(dsimp only;omega)⟩;rw[decide_eq_true_iff,aha,P7 dP ab,P7 dP ab];refine⟨λh=>⟨h5.1,by rw[h5.2,h]⟩,λh=>?_⟩;have:=List.append_inj_right' h.2 rfl;simpa using this
 have h5:=h4.1 h5;have e1:=h5.2;rw[List.take_of_length_le ab,List.take_of_length_le ab]at e1;rw[h4];exact⟨λ_=>e1,λh=>h5⟩;subst h5;rw[h4];refine⟨λh=>absurd (h4.2 h) ao,λh=>?_⟩;subst h;exact absurd (h4.2 ⟨rfl,rfl⟩) ao
def Pm:List (List UInt8)->Int->cP->cP⊕Int
 |[],_,acc=>.inl acc
 |[x],n,acc=>if x=[]then .inl acc else .inr n
 |x::y::r,n,acc=>match pq (kB 47 x)with
  |some p=>Pm (y::r) (n+1) (acc++[p])
  |none=>.inr n
def lH(s:ByteArray):cP×Int×Int:=if 200<s.size then([],0,10)else match Pm (kB 10 s.data.toList) 1 []with
 |.inl ps=>if qa ps=0 then(ps,0,0)else([],0,qa ps)
 |.inr n=>([],n,2)
theorem X9{s:ByteArray}{x:cP}{n e:Int}(h:lH s=(x,n,e)):x.length<=4/\∀p∈x,U6 p:=by
 unfold lH at h;split at h;cases h;simp
 split at h;split at h;rename_i h0;cases h;exact Rf h0;cases h;simp
 cases h;simp
theorem Wp{a b:ByteArray}{A B:Prop}:bM (a.toList==b.toList) A B↔(a=b->A)/\(¬a=b->B):=by
 have:(a.toList==b.toList)=decide (a=b):=by rw[Bool.eq_iff_iff,dQ,bR,ByteArray.toList_eq,ByteArray.toList_eq];exact⟨λh=>by rw[<-Iz a,h,Iz],λh=>by rw[h]⟩
 rw[this,eS]
theorem Jh{l m:List UInt8}:pS l=pS m↔l=m:=⟨λh=>by rw[<-zx l,h,zx],λh=>by rw[h]⟩
theorem shP{p:PD}(h:U6 p):gE p:=by obtain⟨a,b,c⟩:=agR h;exact⟨a,b,c⟩
def U4:ij:=((T0.jF 54 λa=>dS (D54 a)).jF 55 λa=>dS (D55 a)).jF 50 λa=>dS (D51 a)
def D15:cp->Dn
 |[.val (.string s)]=>some ([],.ex cP λl=>.ex Int λn=>.ex Int λe=>.res (.tup [.sl cE l .no,jE n,jE e]) [] [lH s=(l,n,e)],
  [(8,.dep λ_ tS=>.ex Nat λi=>.ex cP λo=>.st {sl:=[(6,.sl cE o (.oS tS.length)),(7,jE i)],own:=[(42,4)],gV:=[i+1<=(kB 10 s.data.toList).length,o.length=i,∀p∈o,gE p,Pm (kB 10 s.data.toList) 1 []=Pm ((kB 10 s.data.toList).drop i) ((i:Int)+1) o],m:=(kB 10 s.data.toList).length-i})])
 |_=>none
def v15.q1 (p0:ByteArray)(p1:Int)(p2:Nat)(p3:cP)(p4:Prop):Prop:=p1=(↑p2:Int)/\p2+1<=(kB (10:Int) p0.data.toList).length/\p3.length=p2/\(∀(p:PD),p∈p3->gE p)/\Pm (kB (10:Int) p0.data.toList) (1:Int) []=Pm (List.drop p2 (kB (10:Int) p0.data.toList)) ((↑p2:Int)+1) p3/\p4
theorem v15:VI U4 Tryz.f15 [some (.sl cE),some kP,some kP] D15:=by
 refine nC λa=>?_;unfold D15;split
 rotate_left
 trivial;rename_i s;change ByteArray at s;intro hp;refine Ah (A:=bM (decide ((↑s.size:Int)>200)) (∃(a:cP),∃(x:Int),∃(y:Int),[]=a/\0=x/\10=y/\lH s=(a,x,y)/\True) (s.size<=1000/\∀(a:List ByteArray),a=List.map pS (kB (10:Int) s.data.toList)->(∃(a:Nat),∃(x:cP),[]=x/\v15.q1 s (0:Int) a x (((kB (10:Int) s.data.toList).length-a)<1000000))/\∀(x:Nat)(y:cP),x+1<=(kB (10:Int) s.data.toList).length->y.length=x->(∀(p:PD),p∈y->gE p)->Pm (kB (10:Int) s.data.toList) (1:Int) []=Pm (List.drop x (kB (10:Int) s.data.toList)) ((↑x:Int)+1) y->jC ((↑a.length:Int)-1)/\bM (decide ((↑x:Int)<(↑a.length:Int)-1)) ((0<=(↑x:Int)/\(↑x:Int)<(↑a.length:Int))/\ByteArray.size (a.getD x ByteArray.empty)<=1000/\∀(z u:cj)(v:Int)(t:cj)(m:Bool),(if m=true then some (z,u,v,t,())else none)=pq (kB (47:Int) (a.getD x ByteArray.empty).data.toList)->z.length<=1000->u.length<=1000->t.length<=1000->bM (!m) (jC ((↑x:Int)+1)/\∃(a:cP),∃(w:Int),∃(r:Int),[]=a/\(↑x:Int)+1=w/\2=r/\lH s=(a,w,r)/\True) (y.length+1<=1000000000/\jC ((↑x:Int)+1)/\∃(w:Nat),∃(r:cP),a=a/\y++[(z,u,v,t,())]=r/\v15.q1 s ((↑x:Int)+1) w r (((kB (10:Int) s.data.toList).length-w)<((kB (10:Int) s.data.toList).length-x)))) (jC ((↑a.length:Int)-1)/\(0<=(↑a.length:Int)-1/\(↑a.length:Int)-1<(↑a.length:Int))/\bM (!ByteArray.toList (a.getD ((↑a.length:Int)-1).toNat ByteArray.empty)==({data:=#[]}:ByteArray).toList) (∃(z:cP),∃(u:Int),∃(v:Int),[]=z/\(↑a.length:Int)=u/\2=v/\lH s=(z,u,v)/\True) (y.length<=1000/\(∀(p:(cE).den),p∈y->gE p)/\bM (qa y !=0) (∃(a:cP),∃(z:Int),∃(u:Int),[]=a/\0=z/\qa y=u/\lH s=(a,z,u)/\True) (∃(a:cP),∃(z:Int),∃(u:Int),y=a/\0=z/\0=u/\lH s=(a,z,u)/\True))))) (by kernel_rfl) ?_;unfold v15.q1;have hel:=As 10 s.data.toList;have hlen:=IW 10 s.data.toList;have hne:=NC 10 s.data.toList;have hs:=vg s;rw[eS];refine⟨λh=>⟨_,_,_,rfl,rfl,rfl,by rw[lH,if_pos ab],trivial⟩,λh=>⟨ab,λw hw=>?_⟩⟩;have JQ:lH s=match Pm (kB 10 s.data.toList) 1 []with
  |.inl ps=>if qa ps=0 then(ps,0,0)else([],0,qa ps)
  |.inr n=>([],n,2):=by rw[lH,if_neg ab]
 generalize hL:kB 10 s.data.toList=L at*;have mV:0<L.length:=List.length_pos_iff.2 hne;have hwl:w.length=L.length:=by rw[hw,List.length_map]
 simp only[eS,j8,Wp,j9,og,jC,hwl,and_true,true_and,eq_self];refine⟨⟨0,_,rfl,rfl,ab,rfl,ae,rfl,by first|omega|(dsimp only;omega)⟩,λi o k1 k2 k3 k4=>⟨⟨ab,ab⟩,λk5=>?_,λk5=>?_⟩⟩
 .have hi:i<L.length:=ab
  have hi1:i+1<L.length:=ab
  have hg:w.getD i ByteArray.empty=pS L[i]:=by rw[hw,aK,cH,aT hi];rfl
  have hsz:=hel _ (iS hi);have hd:L.drop i=L[i]::L[i+1]::L.drop (i+1+1):=by rw[jM hi,jM hi1]
  have wv:L.drop (i+1)=L[i+1]::L.drop (i+1+1):=jM hi1;rw[hd,Pm,<-wv]at k4;rw[hg,zx,jj];refine⟨⟨ab,ab⟩,ab,λu lo wr q b e1 e2 e3 e4=>iZ.2 ⟨λhb=>?_,λhb=>?_⟩⟩;rw[if_pos hb]at e1;rw[<-e1]at k4;refine⟨ab,⟨ab,ab⟩,i+1,_,rfl,ab,ab,by simp[k2],zK k3 ⟨e2,e3,e4⟩,by rw[k4];rfl,by first|omega|(dsimp only;omega)⟩;.rw[if_neg (by rw[hb];decide)]at e1;rw[<-e1]at k4;exact⟨⟨ab,ab⟩,_,_,_,rfl,rfl,rfl,by rw[JQ,k4]⟩
 have hi:i<L.length:=ab
 have tn:((L.length:Int)-1).toNat=i:=ab
 have hg:w.getD i ByteArray.empty=pS L[i]:=by rw[hw,aK,cH,aT hi];rfl
 have hd:L.drop i=[L[i]]:=by rw[jM hi,hU ab]
 rw[hd,Pm]at k4;rw[tn,hg];refine⟨⟨ab,ab⟩,⟨ab,ab⟩,λh0=>⟨ab,k3,λh1=>⟨_,_,_,rfl,rfl,rfl,?_⟩,λh1=>⟨_,_,_,rfl,rfl,rfl,?_⟩⟩,λh0=>⟨_,_,_,rfl,rfl,rfl,?_⟩⟩;rw[if_pos (Jh.1 h0)]at k4;rw[JQ,k4];simp only[h1,if_true];rw[if_pos (Jh.1 h0)]at k4;rw[JQ,k4];simp only[h1,if_false];rw[if_neg λh=>h0 (Jh.2 h)]at k4;rw[JQ,k4,show(i:Int)+1=L.length by omega]
theorem aeW{p:PD}(h:Ug p=true):gE p:=by have:=of_decide_eq_true h;exact⟨ab,ab,ab⟩
def aeG(te:cp)(i:Nat)(k:Nat->LA):LA:=
 match te.getD i .unk with
 |.ptr p _=>k p
 |_=>.un 0
def agH(te:cp)(i:Nat)(k:Int->LA):LA:=
 match te.getD i .unk with
 |.val (.int .i64 n)=>k n
 |_=>.un 0
def agG(te:cp)(i:Nat)(k:List ByteArray->LA):LA:=
 match te.getD i .unk with
 |.sl .str l _=>k l
 |_=>.un 0
def J8:List (Nat×LA):=[(4,.dep λte tS=>agH te 6 λk=>aeG te 0 λp=>.ex Nat λm=>.ex (List cE.den) λl=>.ex cj λr=>.ex Int λz=>.st {sl:=[(5,.sl cE l (.oS tS.length)),(6,jE m)],pl:=[(p,FQ r z)],own:=[(42,4)],gV:=[(l.length+m:Int)<=k\/(l.length+m:Int)=0,∀p∈l,U6 p],m:=m})]
def DK(l:cP):Prop:=l.length<=1000/\∀p∈l,gE p
structure aaI (cF:bT):Prop where
 w:∀(l:cP) d,DK l->RT gI [] (.sl cE l .no) d->∃r,cF 10 [d]=some r/\r.pure=true/\RT gI [] (.tup [M9 (j7 l).1,jE (j7 l).2]) r
 r:∀s:ByteArray,∃r,cF 14 [.val (.string s)]=some r/\r.pure=true/\RT gI [] (.tup [.sl cE (lH s).1 .no,jE (lH s).2.1,jE (lH s).2.2]) r
def S10:cp->Sp
 |[.sl (.pair (.sl (.int .i64)) (.pair (.sl (.int .i64)) (.pair (.int .i64) (.pair (.sl (.int .i64)) .unit)))) l .no]=>some ([DK l],.ex ByteArray λb=>.ex Int λe=>.res (.tup [M9 b,jE e]) [] [j7 l=(b,e)])
 |_=>none
def S14:cp->Sp
 |[.val (.string s)]=>some ([],.ex cP λl=>.ex Int λn=>.ex Int λe=>.res (.tup [.sl cE l .no,jE n,jE e]) [] [lH s=(l,n,e)])
 |_=>none
noncomputable def R9:ij:=((((((((((R6.jF 6 λa=>dS (D18 a)).jF 11 λa=>dS (aaL a)).jF 12 λa=>dS (aaK a)).jF 13 λa=>dS (Vu a)).jF 15 λa=>dS (D15 a)).jF 23 λa=>dS (D25 a)).jF 37 λa=>dS (D26 a)).jF 16 λa=>dS (aev a)).jF 10 S10).jF 14 S14).aen 8 Tryz.f8 J8
def D3:cp->Dn
 |[.sl (.pair (.sl (.int .i64)) (.pair (.sl (.int .i64)) (.pair (.int .i64) (.pair (.sl (.int .i64)) .unit)))) l .no,.val (.string text),.val (.int .i64 at_),.val (.int .i64 how),.val (.int .u8 iU),.sl (.int .i64) yd .no]=>some ([],.res (tQ true) [] [],
  [(15,.dep λte _=>agG te 22 λts=>.ex Nat λi=>.st {sl:=[(23,jE i)],gV:=[i<=ts.length],m:=ts.length-i})])
 |_=>none
def v3.q1 (p0:List cE.den)(p1:Nat)(p2:Int)(p3:cj)(p4:Int)(p5 p6:cj)(p7:Int)(p8 p9:cj)(p10:Int):Prop:=p0.length+1<=1000000000/\jC ((↑p1:Int)-1)/\∃(a:Nat),∃(x:List cE.den),∃(y:cj),∃(z:Int),Nj cE.den/\p0++[(p5,p6,p7,p8,())]=x/\(↑p1:Int)-1=(↑a:Int)/\p9=y/\p10=z/\((↑x.length:Int)+(↑a:Int)<=p2\/(↑x.length:Int)+(↑a:Int)=0)/\(∀(p:cE.den),p∈x->U6 p)/\(a)<(p1)
def v3.q2 (p0:cP)(p1:ByteArray):Prop:=(4:Int)<=1000/\(-10000:Int)<=4/\∀(a:Int)(y:cj)(r:Int),0<=a->a<=4\/a=0->(∃(t:Nat),∃(z:List cE.den),∃(i:cj),∃(h:Int),[]=z/\a=(↑t:Int)/\y=i/\r=h/\((↑z.length:Int)+(↑t:Int)<=a\/(↑z.length:Int)+(↑t:Int)=0)/\(∀(p:cE.den),p∈z->U6 p)/\(t)<1000000)/\∀(t:Nat)(z:List cE.den)(i:cj)(h:Int),(↑z.length:Int)+(↑t:Int)<=a\/(↑z.length:Int)+(↑t:Int)=0->(∀(p:cE.den),p∈z->U6 p)->bM (decide ((↑t:Int)>0)) (bM (decide ((↑z.length:Int)>0)) ((2:Int)<=1000/\(0:Int)<=2/\∀(j:Bool)(m:Int)(d:cj)(g:Int),bM j (jC ((↑z.length:Int)-1)/\(↑z.length:Int)-1<=1000/\(-10000:Int)<=(↑z.length:Int)-1/\∀(v:Int)(s:cj)(f:Int),0<=v->v<=(↑z.length:Int)-1\/v=0->(0<=v/\v<(↑z.length:Int))/\Ok (z.getD v.toNat bo).1 (z.getD v.toNat bo).2.1 (z.getD v.toNat bo).2.2.1 (z.getD v.toNat bo).2.2.2.1/\∀(u w:cj)(k:Int)(c b:cj)(e:Int),Ok u w k c->u=List.map (λ(x:kP.den)=>(9:kP.den)-x) (z.getD v.toNat bo).2.1->v3.q1 z t a i h u w k c b e) ((3:Int)<=5/\(5:Int)<=8/\∀(v s:cj)(f:Int)(u w:cj)(k:Int),Ok v s f u->(↑v.length:Int)<=5->v3.q1 z t a i h v s f u w k)) ((3:Int)<=5/\(5:Int)<=8/\∀(j m:cj)(d:Int)(g v:cj)(s:Int),Ok j m d g->(↑j.length:Int)<=5->v3.q1 z t a i h j m d g v s)) (DK p0/\∀(a:ByteArray)(j:Int),j7 p0=(a,j)->p0.length<=1000/\(∀(p:(cE).den),p∈p0->gE p)/\∀(m:ByteArray)(d:Int),j7 p0=(m,d)->DK z/\∀(g:ByteArray)(v:Int),j7 z=(g,v)->z.length<=1000/\(∀(p:(cE).den),p∈z->gE p)/\∀(s:ByteArray)(f:Int),j7 z=(s,f)->bM (!a.toList==m.toList) (false=true/\True) (bM (j !=d) (false=true/\True) (bM (!g.toList==s.toList) (false=true/\True) (bM (v !=f) (false=true/\True) (s.size<=100000/\∀(a:ByteArray),a.size<=100001->(0:Int)<2/\(2:Int)<=1000000/\∀(u:Int),0<=u->u<2->jC ((200:Int)+u)/\((200:Int)+u=200+u/\(0:Int)<=200+u/\(200:Int)+u<=1000000000)/\(∃(a:Nat),0=(↑a:Int)/\a<=6/\(6-a)<1000000)/\∀(w:Nat),w<=6->bM (decide ((↑w:Int)<(↑(6:Nat):Int))) ((0<=(↑w:Int)/\(↑w:Int)<(↑(6:Nat):Int))/\∀(k:cP)(c b:Int),lH ([p1,m,s,a,{data:=#[(48:UInt8),(48:UInt8),(48:UInt8),(47:UInt8),(48:UInt8),(48:UInt8),(48:UInt8),(47:UInt8),(48:UInt8),(47:UInt8),(48:UInt8),(10:UInt8),(48:UInt8),(48:UInt8),(48:UInt8),(47:UInt8),(48:UInt8),(48:UInt8),(48:UInt8),(47:UInt8),(48:UInt8),(47:UInt8),(48:UInt8),(10:UInt8),(48:UInt8),(48:UInt8),(48:UInt8),(47:UInt8),(48:UInt8),(48:UInt8),(48:UInt8),(47:UInt8),(48:UInt8),(47:UInt8),(48:UInt8),(10:UInt8),(48:UInt8),(48:UInt8),(48:UInt8),(47:UInt8),(48:UInt8),(48:UInt8),(48:UInt8),(47:UInt8),(48:UInt8),(47:UInt8),(48:UInt8),(10:UInt8),(48:UInt8),(48:UInt8),(48:UInt8),(47:UInt8),(48:UInt8),(48:UInt8),(48:UInt8),(47:UInt8),(48:UInt8),(47:UInt8),(48:UInt8),(10:UInt8)]},{data:=(List.map (λ(n:Int)=>UInt8.ofNat n.toNat) (List.replicate ((200:Int)+u).toNat (0:Int))).toArray}].getD w ByteArray.empty)=(k,c,b)->(0<=(↑w:Int)/\(↑w:Int)<(↑(6:Nat):Int))/\∀(e:cP)(Y Z:Int),lH ([p1,m,s,a,{data:=#[(48:UInt8),(48:UInt8),(48:UInt8),(47:UInt8),(48:UInt8),(48:UInt8),(48:UInt8),(47:UInt8),(48:UInt8),(47:UInt8),(48:UInt8),(10:UInt8),(48:UInt8),(48:UInt8),(48:UInt8),(47:UInt8),(48:UInt8),(48:UInt8),(48:UInt8),(47:UInt8),(48:UInt8),(47:UInt8),(48:UInt8),(10:UInt8),(48:UInt8),(48:UInt8),(48:UInt8),(47:UInt8),(48:UInt8),(48:UInt8),(48:UInt8),(47:UInt8),(48:UInt8),(47:UInt8),(48:UInt8),(10:UInt8),(48:UInt8),(48:UInt8),(48:UInt8),(47:UInt8),(48:UInt8),(48:UInt8),(48:UInt8),(47:UInt8),(48:UInt8),(47:UInt8),(48:UInt8),(10:UInt8),(48:UInt8),(48:UInt8),(48:UInt8),(47:UInt8),(48:UInt8),(48:UInt8),(48:UInt8),(47:UInt8),(48:UInt8),(47:UInt8),(48:UInt8),(10:UInt8)]},{data:=(List.map (λ(n:Int)=>UInt8.ofNat n.toNat) (List.replicate ((200:Int)+u).toNat (0:Int))).toArray}].getD w ByteArray.empty)=(e,Y,Z)->bM (c !=Y) (false=true/\True) (bM (b !=Z) (false=true/\True) (k.length<=1000/\e.length<=1000/\(∀(p:(cE).den),p∈k->gE p)/\(∀(p:(cE).den),p∈e->gE p)/\∀(U:Bool),(U=true↔k=e)->bM (!U) (false=true/\True) (jC ((↑w:Int)+1)/\∃(X:Nat),[p1,m,s,a,{data:=#[(48:UInt8),(48:UInt8),(48:UInt8),(47:UInt8),(48:UInt8),(48:UInt8),(48:UInt8),(47:UInt8),(48:UInt8),(47:UInt8),(48:UInt8),(10:UInt8),(48:UInt8),(48:UInt8),(48:UInt8),(47:UInt8),(48:UInt8),(48:UInt8),(48:UInt8),(47:UInt8),(48:UInt8),(47:UInt8),(48:UInt8),(10:UInt8),(48:UInt8),(48:UInt8),(48:UInt8),(47:UInt8),(48:UInt8),(48:UInt8),(48:UInt8),(47:UInt8),(48:UInt8),(47:UInt8),(48:UInt8),(10:UInt8),(48:UInt8),(48:UInt8),(48:UInt8),(47:UInt8),(48:UInt8),(48:UInt8),(48:UInt8),(47:UInt8),(48:UInt8),(47:UInt8),(48:UInt8),(10:UInt8),(48:UInt8),(48:UInt8),(48:UInt8),(47:UInt8),(48:UInt8),(48:UInt8),(48:UInt8),(47:UInt8),(48:UInt8),(47:UInt8),(48:UInt8),(10:UInt8)]},{data:=(List.map (λ(n:Int)=>UInt8.ofNat n.toNat) (List.replicate ((200:Int)+u).toNat (0:Int))).toArray}]=[p1,m,s,a,{data:=#[(48:UInt8),(48:UInt8),(48:UInt8),(47:UInt8),(48:UInt8),(48:UInt8),(48:UInt8),(47:UInt8),(48:UInt8),(47:UInt8),(48:UInt8),(10:UInt8),(48:UInt8),(48:UInt8),(48:UInt8),(47:UInt8),(48:UInt8),(48:UInt8),(48:UInt8),(47:UInt8),(48:UInt8),(47:UInt8),(48:UInt8),(10:UInt8),(48:UInt8),(48:UInt8),(48:UInt8),(47:UInt8),(48:UInt8),(48:UInt8),(48:UInt8),(47:UInt8),(48:UInt8),(47:UInt8),(48:UInt8),(10:UInt8),(48:UInt8),(48:UInt8),(48:UInt8),(47:UInt8),(48:UInt8),(48:UInt8),(48:UInt8),(47:UInt8),(48:UInt8),(47:UInt8),(48:UInt8),(10:UInt8),(48:UInt8),(48:UInt8),(48:UInt8),(47:UInt8),(48:UInt8),(48:UInt8),(48:UInt8),(47:UInt8),(48:UInt8),(47:UInt8),(48:UInt8),(10:UInt8)]},{data:=(List.map (λ(n:Int)=>UInt8.ofNat n.toNat) (List.replicate ((200:Int)+u).toNat (0:Int))).toArray}]/\(↑w:Int)+1=(↑X:Int)/\i=i/\h=h/\List.replicate ((200:Int)+u).toNat 0=List.replicate ((200:Int)+u).toNat (0:Int)/\X<=6/\(6-X)<(6-w))))) (true=true/\True))))))
theorem v3:VI R9 Tryz.f3 [some .bool] D3 1:=by
 refine nC λa=>?_;unfold D3;split
 rotate_left
 trivial;rename_i l text at_ how iU yd;change cP at l;change ByteArray at text;intro hp;refine Ah (A:=∀(a:Bool),a=(decide (l.length<=20)&&l.all Ug)->bM (!a) (true=true/\True) (bM (decide ((↑text.size:Int)>150)) (bM (decide ((↑text.size:Int)<=200)) (true=true/\True) (v3.q2 l text)) (v3.q2 l text))) (by kernel_rfl) ?_;unfold v3.q2 v3.q1;refineλb hb=>j8.2 (iZ.2 ⟨λh1=>?_,λ_=>⟨rfl,trivial⟩⟩);subst hb;simp only[aC,bR,aU]at h1;have sl:∀p∈l,gE p:=λp hp=>aeW (h1.2 p hp);refine eS.2 ((λh=>⟨λ_=>eS.2 ⟨λ_=>⟨rfl,trivial⟩,λ_=>h⟩,λ_=>h⟩) ?_);simp only[eS,j9,j8,Wp,og,jC,and_true,true_and,eq_self];refine⟨ab,ab,λk r z hk0 hk=>⟨⟨k.toNat,[],_,_,rfl,ab,rfl,rfl,by simp;omega,ae,by first|omega|(dsimp only;omega)⟩,λm d r1 z1 hm hd=>?_⟩⟩;change cP at d;have key:∀(u lo:cj)(w:Int)(q r':cj)(z':Int),0<m->Ok u lo w q->(d.length+1<=1000000000/\(-9223372036854775808<=(m:Int)-1/\(m:Int)-1<=9223372036854775807)/\∃(a:Nat)(a1:cP)(a2:cj)(a3:Int),d++[(u,lo,w,q,())]=a1/\(m:Int)-1=(a:Int)/\r'=a2/\z'=a3/\((a1.length:Int)+a<=k\/(a1.length:Int)+a=0)/\(∀p∈a1,U6 p)/\a<m):=λu lo w q r' z' h1 ho=>by refine⟨ab,ab,m-1,_,_,_,rfl,ab,rfl,rfl,by simp;omega,zK hd ho,ab⟩
 refine⟨λh1=>⟨λh2=>⟨ab,ab,λb _ r2 z2=>iZ.2 ⟨λhb=>⟨ab,ab,ab,λj r3 z3 UO hj=>⟨⟨ab,ab⟩,rD (P:=U6) ab hd,λu lo w q r4 z4 ho hu=>key u lo w q r4 z4 ab ho⟩⟩,λhb=>⟨ab,ab,λu lo w q r4 z4 ho _=>key u lo w q r4 z4 ab ho⟩⟩⟩,λh2=>⟨ab,ab,λu lo w q r4 z4 ho _=>key u lo w q r4 z4 ab ho⟩⟩,λh1=>?_⟩;have sd:∀p∈d,gE p:=λp hp=>shP (hd p hp);refine⟨⟨ab,sl⟩,λb e h2=>⟨ab,sl,λb' e' h3=>⟨⟨ab,sd⟩,λc f h4=>⟨ab,sd,λc' f' h5=>?_⟩⟩⟩⟩;obtain⟨rfl,rfl⟩:b=b'/\e=e':=by rw[h2]at h3;simpa using h3
 obtain⟨rfl,rfl⟩:c=c'/\f=f':=by rw[h4]at h5;simpa using h5
 have nR:c.size<=100000:=by
  have e1:(j7 d).1=c:=by rw[h4]
  have:=xQ sd;rw[<-e1,j7];split<;>simp only[jj,gr]<;>omega
 refine⟨λ_=>⟨λ_=>⟨λ_=>⟨λ_=>⟨nR,λbl hbl=>⟨ab,ab,λq hq0 hq1=>⟨ab,⟨ab,ab⟩,⟨0,rfl,ab,by first|omega|(dsimp only;omega)⟩,λi hi=>⟨λh6=>?_,λ_=>trivial⟩⟩⟩⟩,λh=>absurd rfl h⟩,λh=>absurd rfl h⟩,λh=>absurd rfl h⟩,λh=>absurd rfl h⟩;refine⟨⟨ab,ab⟩,λx n g hx=>⟨⟨ab,ab⟩,λy n' g' hy=>?_⟩⟩;obtain⟨o1,o2⟩:=X9 hx;obtain⟨rfl,rfl,rfl⟩:x=y/\n=n'/\g=g':=by rw[hx]at hy;simpa using hy
 have so:∀p∈x,gE p:=λp hp=>shP (o2 p hp);refine⟨λ_=>⟨λ_=>⟨ab,ab,so,so,λb hb=>?_⟩,λh=>absurd rfl h⟩,λh=>absurd rfl h⟩;obtain rfl:b=true:=hb.2 rfl;exact⟨⟨ab,ab⟩,i+1,ab,ab,by first|omega|(dsimp only;omega)⟩
section
variable {cF:bT} (tk:RX cF) (ts:aaI cF)
theorem kg{k:Nat}{T:ij}(h:oU cF k T):∀m,oU cF (m+k) T
 |0=>by rwa [eO]
 |m+1=>by have:=mC (kg h m);rwa [Nat.add_right_comm]at this
theorem aiv{T:ij}{k:Nat}(ts:aaI cF)(hT:oU cF k T):oU cF k (T.jF 10 S10):=Vw hT λn a p s hs hp=>by unfold S10 at hs;split at hs;rename_i l;cases hs;intro bV hd;obtain⟨d,_,rfl,h1,h2⟩:=ax hd;rw[aO h2];obtain⟨r,k1,k2,k3⟩:=ts.w l d hp.1 h1;exact⟨r,_,by simp only[Dr,mo,k1,k2,if_true],k2,k3,rfl,_,_,rfl,rfl,trivial⟩;cases hs
theorem aiu{T:ij}{k:Nat}(ts:aaI cF)(hT:oU cF k T):oU cF k (T.jF 14 S14):=Vw hT λn a p s hs _=>by unfold S14 at hs;split at hs;rename_i b;cases hs;intro bV hd;obtain⟨d,_,rfl,h1,h2⟩:=ax hd;rw[aO h2];obtain rfl:=I4 h1;obtain⟨r,k1,k2,k3⟩:=ts.r b;exact⟨r,_,by simp only[Dr,mo,k1,k2,if_true],k2,k3,rfl,_,_,_,rfl,rfl,trivial⟩;cases hs
include tk
theorem agu:oU cF 1 G1:=FA tk (kD tk) ao Tryz.func117 rfl v107 (mC (kD tk))
theorem agt:oU cF 2 G2:=FA tk (agu tk) ao Tryz.func116 rfl U9 (mC (agu tk))
theorem ags:oU cF 3 G3:=FA tk (agt tk) ao Tryz.func86 rfl v91 (mC (agt tk))
theorem aiM:oU cF 1 U1:=FA tk (kD tk) ao Tryz.func13 rfl af0 (mC (kD tk))
theorem aiL:oU cF 1 U2:=FA tk (kD tk) ao Tryz.func93 rfl v93 (FA tk (kD tk) ao Tryz.func54 rfl v54 (mC (kD tk)))
theorem aiK:oU cF 4 U3:=FA tk (kg (kD tk) 3) ao Tryz.func51 rfl U7 (FA tk (ags tk) ao Tryz.func50 rfl v51 (kg (kD tk) 4))
theorem aiJ:oU cF 4 U4:=FA tk (ags tk) ao Tryz.func50 rfl v51 (FA tk (kg (aiL tk) 2) ao Tryz.func55 rfl v55 (FA tk (kg (kD tk) 3) ao Tryz.func54 rfl v54 (kg (kD tk) 4)))
theorem af2:oU cF 1 R7:=FA tk (kD tk) ao Tryz.func23 rfl v25 (mC (kD tk))
theorem aiR:oU cF 2 R8:=FA tk (af2 tk) ao Tryz.func37 rfl v26 (kg (kD tk) 2)
theorem agU:oU cF 6 (((((R6.jF 6 λa=>dS (D18 a)).jF 11 λa=>dS (aaL a)).jF 12 λa=>dS (aaK a)).jF 13 λa=>dS (Vu a)).jF 15 λa=>dS (D15 a)):=
 FA tk (kg (aiJ tk) 1) ao Tryz.func15 rfl v15 (FA tk (kg (kD tk) 5) ao Tryz.func13 rfl af0 (FA tk (kg (aiM tk) 4) ao Tryz.func12 rfl H8 (FA tk (kg (aiK tk) 1) ao Tryz.func11 rfl vX (FA tk (kg (kD tk) 5) ao Tryz.func6 rfl v18 (aiS tk)))))
include ts
theorem aiQ:oU cF 6 R9:=agM (aiu ts (aiv ts (FA tk (kg (aiR tk) 3) ao Tryz.func16 rfl U8 (FA tk (kg (af2 tk) 4) ao Tryz.func37 rfl v26 (FA tk (kg (kD tk) 5) ao Tryz.func23 rfl v25 (agU tk)))))) Tryz.func8 rfl
theorem YM(n:Nat)(l:cP)(text:ByteArray)(at_ how iU:Int)(yd:cj):ug (Ka cF (n+8)) 3 [.sl cE l .no,.val (.string text),.val (.int .i64 at_),.val (.int .i64 how),.val (.int .u8 iU),.sl kP yd .no] (λv=>v=tQ true):=
 (((FA tk (aiQ tk ts) ao Tryz.func3 rfl v3 (T':=T0) (kg (kD tk) 8)).2 n).I 3 [.sl cE l .no,.val (.string text),.val (.int .i64 at_),.val (.int .i64 how),.val (.int .u8 iU),.sl kP yd .no] [] (.res (tQ true) [] []) rfl trivial).mono λv hv=>hv.1
end
end Go.Tv
