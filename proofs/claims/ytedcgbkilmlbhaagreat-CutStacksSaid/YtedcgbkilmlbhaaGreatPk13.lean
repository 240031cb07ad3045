import Derived.Test.YtedcgbkilmlbhaaGreatPk12
import Derived.Test.YtedcgbkilmlbhaaGreatPk06
set_option maxHeartbeats 1000000
set_option maxRecDepth 100000
namespace Go.Tv
open Go Go.Di Go.Proofs
abbrev pcS(f:br->br->Int->br->List Prop):uk:=.ex br λu=>.ex br λl=>.ex Int λw=>.ex br λls=>.ex br λr=>.ex Int λz=>.res (pcV u l w ls) (xd r z) (f u l w ls)
def D12:cp->cp->Dn
 |[.ptr 0 0,.val (.int .i64 c)],[.sl (.int .i64) _ .no,.val (.int .u64 _)]=>some ([3<=c,c<=8],pcS λu l w ls=>[Ok u l w ls,(u.length:Int)<=c],[])
 |_,_=>none
theorem v12:VC T4 Tryz.f39 [some aF] [some bC,some (.int .u64)] D12:=by
 refine lN λa cs=>?_;unfold D12;split
 rotate_left
 trivial;rename_i c r z;intro hp;obtain⟨h1,h2,-⟩:=hp;refine jx (A:=(-1000:Int)<=3/\(3:Int)<=1000/\(-1000:Int)<=c/\c<=1003/\c<=5000/\∀(a:Int)(z:br)(y:Int),3<=a->a<=c\/a=3->0<=a/\a<=100/\∀(w X:br)(Y:Int),(↑w.length:Int)=a->lg w->0<=a/\a<=100/\∀(u h:br)(g:Int),(↑u.length:Int)=a->lg u->(2:Int)<=1000/\(-10000:Int)<=2/\∀(a:Int)(f:br)(e:Int),0<=a->a<=2\/a=0->0<4/\4<=1000/\∀(r:Int)(d:br)(b:Int),r∈[(0:Int),(0:Int),(1:Int),a]->∀(a n:br)(k:Int),a≠[]->(∀(x:Int),x∈a->0<=x/\x<=3)->List.Pairwise (λ(x1 x2:Int)=>x1<x2) a->∃(v:br),∃(s:br),∃(t:Int),∃(m:br),∃(j:br),∃(i:Int),w=v/\u=s/\r=t/\a=m/\n=j/\k=i/\Ok v s t m/\(↑v.length:Int)<=c/\True) (by kernel_rfl) ?_;simp only[bP,cH,dg,ek,eW,cR,and_true,true_and,eq_self];refine⟨ab,ab,ab,ab,ab,λn r1 z1 h3 h4=>⟨ab,ab,λu r2 z2 h5 h6=>⟨ab,ab,λl r3 z3 h7 h8=>⟨ab,ab,λk r4 z4 h9 uG=>⟨ab,ab,λw r5 z5 Ig ls r6 z6 Zx h13 h14=>?_⟩⟩⟩⟩⟩;have h15:0<=w/\w<=2:=by simp at Ig;omega
 exact⟨u,l,w,ls,r6,z6,rfl,rfl,rfl,rfl,rfl,rfl,⟨ab,ab,ab,h6,h8,h15.1,h15.2,Zx,h13,h14⟩,ab⟩
def D77:cp->Dn
 |[.agg [.sl (.int .i64) u .no,.sl (.int .i64) l .no,.val (.int .i64 w),.sl (.int .i64) ls .no]]=>some ([Sh u l ls],.res (aV (mq u l w ls)) [] [],
  [(3,.un 3),(19,.ex Nat λi=>.st {sl:=[(71,aV i)],cQ:=[i<=ls.length,kK ls 0=kK ls i],m:=ls.length-i})])
 |_=>none
theorem v77:VI T4 Tryz.f89 [some bY] D77:=by
 refine dH λa=>?_;unfold D77;split
 rotate_left
 trivial;rename_i u l w ls;change br at u l ls;intro hp;obtain⟨h1,h2,h3⟩:=hp.1;refine jx (A:=((0:Int)<=0/\0<(↑(2:Nat):Int))/\aB (decide ((↑u.length:Int)<3)) (7=mq u l w ls/\True) (aB (decide ((↑u.length:Int)<(↑u.length:Int))) (7=mq u l w ls/\True) (aB (decide ((↑u.length:Int)>8)) (6=mq u l w ls/\True) (aB (decide ((↑u.length:Int)>(↑u.length:Int))) (6=mq u l w ls/\True) (cR (1:Int)/\((0:Int)<=1/\1<(↑(2:Nat):Int))/\aB (decide ((↑l.length:Int)<3)) (7=mq u l w ls/\True) (aB (decide ((↑l.length:Int)<(↑u.length:Int))) (7=mq u l w ls/\True) (aB (decide ((↑l.length:Int)>8)) (6=mq u l w ls/\True) (aB (decide ((↑l.length:Int)>(↑u.length:Int))) (6=mq u l w ls/\True) (cR (2:Int)/\u.length<=1000/\aB (!u.all (pJ (9:Int))) (1=mq u l w ls/\True) (l.length<=1000/\aB (!l.all (pJ (9:Int))) (1=mq u l w ls/\True) (aB (decide (w<0)) (1=mq u l w ls/\True) (aB (decide (w>2)) (1=mq u l w ls/\True) (aB ((↑ls.length:Int)==0) (7=mq u l w ls/\True) ((∃(a:Nat),0=(↑a:Int)/\a<=ls.length/\kK ls 0=kK ls a/\ls.length-a<1000000)/\∀(a:Nat),a<=ls.length->kK ls 0=kK ls a->aB (decide ((↑a:Int)<(↑ls.length:Int))) ((0<=(↑a:Int)/\(↑a:Int)<(↑ls.length:Int))/\aB (decide (ls.getD a 0<0)) (8=mq u l w ls/\True) (aB (decide (ls.getD a 0>3)) (8=mq u l w ls/\True) (aB (decide ((↑a:Int)>0)) (cR ((↑a:Int)-1)/\(0<=(↑a:Int)-1/\(↑a:Int)-1<(↑ls.length:Int))/\aB (decide (ls.getD a 0<=ls.getD ((↑a:Int)-1).toNat (0:Int))) (5=mq u l w ls/\True) (cR ((↑a:Int)+1)/\∃(x:Nat),ls=ls/\(↑ls.length:Int)=(↑ls.length:Int)/\(↑a:Int)+1=(↑x:Int)/\u=u/\l=l/\w=w/\ls=ls/\x<=ls.length/\kK ls 0=kK ls x/\ls.length-x<ls.length-a)) (cR ((↑a:Int)+1)/\∃(x:Nat),ls=ls/\(↑ls.length:Int)=(↑ls.length:Int)/\(↑a:Int)+1=(↑x:Int)/\u=u/\l=l/\w=w/\ls=ls/\x<=ls.length/\kK ls 0=kK ls x/\ls.length-x<ls.length-a)))) (0=mq u l w ls/\True))))))))))))))) (by kernel_rfl) ?_;simp only[bP,cH,dg,ek,eW,cR,and_true,true_and,eq_self];refine⟨ab,λa1=>?_,λa1=>⟨λa2=>ab,λ_=>⟨λa3=>?_,λa3=>⟨λ_=>ab,λ_=>⟨ab,ab,λa4=>?_,λa4=>⟨λa5=>?_,λa5=>⟨λa6=>?_,λa6=>⟨λa7=>?_,λa7=>⟨ab,ab,?_⟩⟩⟩⟩⟩⟩⟩⟩⟩;rw[mq,if_pos ab];rw[mq,if_neg ab,if_pos ab];rw[mq,if_neg ab,if_neg ab,if_pos ab];rw[mq,if_neg ab,if_neg ab,if_pos ab];rw[mq,if_neg ab,if_neg ab,if_neg ab,if_pos ab];rw[mq,if_neg ab,if_neg ab,if_neg ab,if_pos ab];have e1:∀(_:u.all (pJ 9)=false\/l.all (pJ 9)=false\/w<0\/2<w),1=mq u l w ls:=λh=>by rw[mq,if_neg ab,if_neg ab,if_neg ab,if_neg ab,if_pos h]
 rw[gZ];refine⟨λb1=>⟨ab,?_⟩,λb1=>e1 (.inl b1)⟩;rw[gZ];refine⟨λb2=>⟨λb3=>e1 (.inr (.inr (.inl b3))),λb3=>⟨λb4=>e1 (.inr (.inr (.inr b4))),λb4=>⟨λb5=>?_,λb5=>?_⟩⟩⟩,λb2=>e1 (.inr (.inl b2))⟩;rw[mq,if_neg ab,if_neg ab,if_neg ab,if_neg ab,if_neg (by rw[b1,b2];simp;omega),if_pos ab];have e:mq u l w ls=kK ls 0:=Rx ab ab ab ab (by rw[b1];rfl) (by rw[b2];rfl) ab ab ab;rw[e];refine⟨⟨0,rfl,ab,rfl,ab⟩,λi k1 k2=>⟨λk3=>⟨ab,λk4=>?_,λk4=>⟨λk5=>?_,λk5=>⟨λk6=>⟨ab,ab,λk7=>?_,λk7=>⟨ab,i+1,ab,ab,k2.trans (vE ab ab ?_),ab⟩⟩,λk6=>⟨ab,i+1,ab,ab,k2.trans (vE ab ab ab),ab⟩⟩⟩⟩,λk3=>?_⟩⟩;rw[k2,PF ab (.inl k4)];rw[k2,PF ab (.inr ab)];rw[k2,VS ab ab ⟨ab,by rw[show i-1=((i:Int)-1).toNat by omega];exact k7⟩];rw[show i-1=((i:Int)-1).toNat by omega];exactλh=>k7 h.2
 rw[k2,VT ab]
def T5:eM:=(T4.mB 39 λa c=>dS (D12 a c)).cG 89 λa=>dS (D77 a)
def D13:cp->cp->Dn
 |[.ptr 0 0,.agg [.sl (.int .i64) u .no,.sl (.int .i64) l .no,.val (.int .i64 w),.sl (.int .i64) ls .no]],[.sl (.int .i64) _ .no,.val (.int .u64 _)]=>some ([Ok u l w ls],pcS λu1 l1 w1 ls1=>[Ok u1 l1 w1 ls1,u1=l.map (9-·)],
  [(5,.ex br λu1=>.ex br λl1=>.ex Int λw1=>.ex br λls1=>.ex br λr=>.ex Int λz=>.ex Nat λi=>.st {sl:=[(6,aV i)],pl:=[(0,xd r z),(3,[.sl bY ((l.take i).map (9-·)) (.iT 4),.sl bY l1 .no,aV w1,.sl bY ls1 .no])],own:=[(3,1)],cQ:=[i<=l.length,Ok u1 l1 w1 ls1,l1.length=l.length],m:=l.length-i})])
 |_,_=>none
theorem v13:VC T5 Tryz.f40 [some aF] [some bC,some (.int .u64)] D13:=by
 refine lN λa cs=>?_;unfold D13;split
 rotate_left
 trivial;rename_i u l w ls r z;intro hp;have h1:=hp.1;refine jx (A:=3<=(↑u.length:Int)/\(↑u.length:Int)<=8/\∀(a y:br)(z:Int)(d X:br)(Y:Int),Ok a y z d->(↑a.length:Int)<=(↑u.length:Int)->0<=(↑u.length:Int)/\(↑u.length:Int)<=100/\∀(a c:br)(b:Int),(↑a.length:Int)=(↑u.length:Int)->lg a->(∃(s:br),∃(r:br),∃(t:Int),∃(n:br),∃(i:br),∃(v:Int),∃(h:Nat),0=(↑h:Int)/\c=i/\b=v/\[]=List.map (λ(x:bY.den)=>(9:bY.den)-x) (List.take h l)/\a=r/\z=t/\d=n/\h<=l.length/\Ok s r t n/\r.length=l.length/\l.length-h<1000000)/\∀(a s:br)(r:Int)(t n:br)(i:Int)(v:Nat),v<=l.length->Ok a s r t->s.length=l.length->aB (decide ((↑v:Int)<(↑l.length:Int))) ((0<=(↑v:Int)/\(↑v:Int)<(↑l.length:Int))/\cR ((9:Int)-l.getD v 0)/\(List.map (λ(x:bY.den)=>(9:bY.den)-x) (List.take v l)).length+1<=1000000000/\cR ((↑v:Int)+1)/\∃(a:br),∃(m:br),∃(k:Int),∃(j:br),∃(f:br),∃(e:Int),∃(g:Nat),(↑v:Int)+1=(↑g:Int)/\n=f/\i=e/\u=u/\l=l/\w=w/\ls=ls/\(0:Int)=0/\List.map (λ(x:bY.den)=>(9:bY.den)-x) (List.take v l)++[(9:Int)-l.getD v 0]=List.map (λ(x:bY.den)=>(9:bY.den)-x) (List.take g l)/\s=m/\r=k/\t=j/\g<=l.length/\Ok a m k j/\m.length=l.length/\l.length-g<l.length-v) (∃(a:br),∃(m:br),∃(k:Int),∃(j:br),∃(f:br),∃(e:Int),List.map (λ(x:bY.den)=>(9:bY.den)-x) (List.take v l)=a/\s=m/\r=k/\t=j/\n=f/\i=e/\Ok a m k j/\a=List.map (λ(x:bY.den)=>(9:bY.den)-x) l/\True)) (by kernel_rfl) ?_;simp only[bP,cH,dg,ek,eW,cR,and_true,true_and,eq_self];have:=h1.n3;have:=h1.n8;have:=h1.len;refine⟨ab,ab,λu1 l1 w1 ls1 r1 z1 h2 h3=>⟨ab,ab,λo r2 z2 h4 h5=>⟨⟨o,o,w1,ls1,r2,z2,0,rfl,rfl,rfl,rfl,rfl,rfl,rfl,ab,⟨ab,ab,rfl,h5,h5,h2.w0,h2.w2,h2.ne,h2.CH,h2.U4⟩,ab,ab⟩,λu3 o w ls r3 z3 i h6 h7 h8=>⟨λh9=>?_,λh9=>?_⟩⟩⟩⟩;have:=h1.hl _ (ot (l:=l) (i:=i) ab);exact⟨ab,ab,by simp;omega,ab,u3,o,w,ls,r3,z3,i+1,ab,rfl,rfl,F8 (f:=λx=>9-x) ab,rfl,rfl,rfl,ab,h7,h8,ab⟩;rw[show i=l.length by omega,fR];exact⟨_,o,w,ls,r3,z3,rfl,rfl,rfl,rfl,rfl,rfl,Yx h7 h8 h1.hl,rfl⟩
def D59:cp->Dn
 |[.sl (.pair (.sl (.int .i64)) (.pair (.sl (.int .i64)) (.pair (.int .i64) (.pair (.sl (.int .i64)) .unit)))) l .no]=>some ([l.length<=1000,∀p∈l,cV p],.res (aV (gG l)) [] [],
  [(3,.ex Nat λi=>.st {sl:=[(8,aV i)],cQ:=[i<=l.length,gG (l.take i)=0],m:=l.length-i})])
 |_=>none
theorem v59:VI T5 Tryz.f94 [some bY] D59:=by
 refine dH λa=>?_;unfold D59;split
 rotate_left
 trivial;rename_i l;intro hp;obtain⟨h1,h2,-⟩:=hp;refine jx (A:=(∃(a:Nat),0=(↑a:Int)/\a<=l.length/\gG (List.take a l)=0/\l.length-a<1000000)/\∀(a:Nat),a<=l.length->gG (List.take a l)=0->aB (decide ((↑a:Int)<(↑l.length:Int))) ((0<=(↑a:Int)/\(↑a:Int)<(↑l.length:Int))/\Sh (l.getD a bm).1 (l.getD a bm).2.1 (l.getD a bm).2.2.2.1/\aB (mq (l.getD a bm).1 (l.getD a bm).2.1 (l.getD a bm).2.2.1 (l.getD a bm).2.2.2.1 !=0) (mq (l.getD a bm).1 (l.getD a bm).2.1 (l.getD a bm).2.2.1 (l.getD a bm).2.2.2.1=gG l/\True) (cR ((↑a:Int)+1)/\∃(x:Nat),l=l/\(↑l.length:Int)=(↑l.length:Int)/\(↑a:Int)+1=(↑x:Int)/\x<=l.length/\gG (List.take x l)=0/\l.length-x<l.length-a)) (0=gG l/\True)) (by kernel_rfl) ?_;simp only[bP,cH,dg,ek,eW,cR,and_true,true_and,eq_self];refine⟨⟨0,rfl,ab,rfl,ab⟩,λi k1 k2=>⟨λk3=>⟨ab,qq (P:=cV) ab h2,λk4=>⟨ab,i+1,ab,ab,Zd ab k2 k4,ab⟩,λk4=>(acy ab k2 k4).symm⟩,λk3=>?_⟩⟩;rw[show i=l.length by omega,fR]at k2;rw[k2]
def T6:eM:=(T5.mB 40 λa c=>dS (D13 a c)).cG 94 λa=>dS (D59 a)
def T7:eM:=T6
def T8:eM:=T7
section
variable {bI:b9} (tk:CX bI)
include tk
theorem adS:ic bI 5 T5:=mg tk (adT tk) an Tryz.func89 rfl v77 (FD (adT tk) Tryz.func39 rfl v12 (fU (adT tk)))
theorem aac:ic bI 6 T6:=mg tk (adS tk) an Tryz.func94 rfl v59 (FD (adS tk) Tryz.func40 rfl v13 (fU (adS tk)))
end
end Go.Tv
namespace Go.Tv
open Go Go.Di Go.Proofs
end Go.Tv
namespace Go.Tv
open Go Go.Di Go.Proofs
def afi(la ub:br)(nb k:Nat):br:=((List.range k).map λ(j:Nat)=>(j:Int)-(nb:Int)).filterMap λs=>if 3<=(stA la ub s).2.2 then some ((stA la ub s).2.1-(stA la ub s).1)else none
def afg(ua la:br)(x:Int)(ub lb:br)(y:Int):br:=afi (fL x ua la) (fK y ub lb) ub.length (ub.length+ua.length+1)
def afh(ua la ub lb ys:br)(x:Int):br:=ys.flatMap (afg ua la x ub lb)
def ake(ua la lsa ub lb lsb:br):br:=lsa.flatMap (afh ua la ub lb lsb)
theorem Dj{n:Int}{u l:br}(h:l.length=u.length):(fK n u l).length=u.length/\(fL n u l).length=u.length:=by unfold fK fL;constructor<;>(repeat' split)<;>simp[h]
theorem ab8{l:br}(h:lg l):lg l.reverse:=λx hx=>h x (List.mem_reverse.1 hx)
theorem IW{n:Int}{u l:br}(h1:lg u)(h2:lg l):lg (fK n u l)/\lg (fL n u l):=by unfold fK fL;constructor<;>(repeat' split)<;>first|assumption|exact ab8 (by assumption)
end Go.Tv
namespace Go.Tv
open Go Go.Di Go.Proofs
structure aaJ (bI:b9):Prop where
 rev:∀(l:br) d,l.length<=1000000->RT fF [] (.sl bY l .no) d->∃r,bI 133 [d]=some r/\r.pure=true/\RT fF [] (.sl bY l.reverse .no) r
def aeI:cp->Sp
 |[.sl (.int .i64) l .no]=>some ([l.length<=1000000],.res (.sl bY l.reverse .no) [] [])
 |_=>none
def D79:cp->Dn
 |[.sl (.int .i64) l .no]=>some ([l≠[],l.length<=1000],.res (.sl bY l .no) [] [],[])
 |_=>none
theorem v79:VI T0 Tryz.f91 [some bC] D79:=by
 refine dH λa=>?_;unfold D79;split
 rotate_left
 trivial;rename_i l;change br at l;intro hp;obtain⟨h1,h2,-⟩:=hp;refine jx (A:=l≠[]/\0+l.length<=1000000000/\l=l/\True) (by kernel_rfl) ?_;exact⟨h1,ab,rfl,trivial⟩
def D98:cp->Dn
 |[.sl (.int .i64) l .no,.val (.int .i64 x)]=>some ([l.length<=1000],.res (aV (vo l x)) [] [],[(3,.ex Nat λi=>.st {sl:=[(8,aV i)],cQ:=[i<=l.length,x∉l.take i],m:=l.length-i})])
 |_=>none
theorem v98:VI T0 Tryz.f122 [some bY] D98:=by
 refine dH λa=>?_;unfold D98;split
 rotate_left
 trivial;rename_i l x;change br at l;intro hp;have h1:=hp.1;refine jx (A:=(∃(a:Nat),0=(↑a:Int)/\a<=l.length/\¬x∈List.take a l/\l.length-a<1000000)/\∀(a:Nat),a<=l.length->¬x∈List.take a l->aB (decide ((↑a:Int)<(↑l.length:Int))) ((0<=(↑a:Int)/\(↑a:Int)<(↑l.length:Int))/\aB (x==l.getD a 0) ((↑a:Int)=vo l x/\True) (cR ((↑a:Int)+1)/\∃(y:Nat),l=l/\x=x/\(↑l.length:Int)=(↑l.length:Int)/\(↑a:Int)+1=(↑y:Int)/\y<=l.length/\¬x∈List.take y l/\l.length-y<l.length-a)) ((-1:Int)=vo l x/\True)) (by kernel_rfl) ?_;simp only[bP,cH,dg,ek,eW,cR,and_true,true_and,eq_self];refine⟨⟨0,ab,ab,ae,ab⟩,λi h2 h3=>⟨λh4=>⟨ab,λh5=>?_,λh5=>⟨ab,i+1,ab,ab,?_,ab⟩⟩,λh4=>?_⟩⟩;rw[TZ ab h3 h5.symm];rw[take_one ab];simp only[eG,bV,not_or];exact⟨h3,h5⟩
 rw[show i=l.length by omega,fR]at h3;rw[vo,if_neg h3]
def D99:cp->Dn
 |[.agg [.sl (.int .i64) u .no,.sl (.int .i64) l .no]]=>some ([],.res (edV u l) [] [],[])
 |_=>none
theorem v99:VI T0 Tryz.f123 [some (.pair bC (.pair bC .unit))] D99:=by
 refine dH λa=>?_;unfold D99;split
 rotate_left
 trivial;rename_i u l;intro hp;refine jx (A:=u=u/\l=l/\True) (by kernel_rfl) ?_;exact⟨rfl,rfl,trivial⟩
def T0r:eM:=T0.cG 133 aeI
def ae7:cp->Dn
 |[.agg [.sl (.int .i64) u .no,.sl (.int .i64) l .no]]=>some ([u.length<=1000,l.length<=1000],.res (edV l.reverse u.reverse) [] [],[])
 |_=>none
theorem aiZ:VI T0r Tryz.f124 [some (.pair bC (.pair bC .unit))] ae7:=by
 refine dH λa=>?_;unfold ae7;split
 rotate_left
 trivial;rename_i u l;intro hp;obtain⟨h1,h2,-⟩:=hp;refine jx (A:=l.length<=1000000/\u.length<=1000000/\l.reverse=l.reverse/\u.reverse=u.reverse/\True) (by kernel_rfl) ?_;exact⟨ab,ab,rfl,rfl,trivial⟩
def ae6:cp->Dn
 |[.agg [.sl (.int .i64) u .no,.sl (.int .i64) l .no]]=>some ([u.length<=1000,l.length<=1000],.res (edV u.reverse l.reverse) [] [],[])
 |_=>none
theorem aiY:VI T0r Tryz.f125 [some (.pair bC (.pair bC .unit))] ae6:=by
 refine dH λa=>?_;unfold ae6;split
 rotate_left
 trivial;rename_i u l;intro hp;obtain⟨h1,h2,-⟩:=hp;refine jx (A:=u.length<=1000000/\l.length<=1000000/\u.reverse=u.reverse/\l.reverse=l.reverse/\True) (by kernel_rfl) ?_;exact⟨ab,ab,rfl,rfl,trivial⟩
def ae5:cp->Dn
 |[.agg [.sl (.int .i64) u .no,.sl (.int .i64) l .no]]=>some ([],.res (edV l u) [] [],[])
 |_=>none
theorem agC:VI T0 Tryz.f126 [some (.pair bC (.pair bC .unit))] ae5:=by
 refine dH λa=>?_;unfold ae5;split
 rotate_left
 trivial;rename_i u l;intro hp;refine jx (A:=l=l/\u=u/\True) (by kernel_rfl) ?_;exact⟨rfl,rfl,trivial⟩
def U1:eM:=(((((T0r.cG 91 λa=>dS (D79 a)).cG 122 λa=>dS (D98 a)).cG 123 λa=>dS (D99 a)).cG 124 λa=>dS (ae7 a)).cG 125 λa=>dS (ae6 a)).cG 126 λa=>dS (ae5 a)
def D80:cp->Dn
 |[.sl (.int .i64) l .no,.val (.int .i64 x)]=>some ([l.length<=1000],.res (kR (decide (x∈l))) [] [],[])
 |_=>none
theorem v80:VI U1 Tryz.f95 [some .bool] D80:=by
 refine dH λa=>?_;unfold D80;split
 rotate_left
 trivial;rename_i l x;change br at l;intro hp;have h1:=hp.1;refine jx (A:=l.length<=1000/\decide (vo l x>=0)=decide (x∈l)/\True) (by kernel_rfl) ?_;refine⟨h1,?_,trivial⟩;rw[decide_eq_decide,vo];split<;>simp_all
def D83:cp->Dn
 |[.val (.int .i64 n),.agg [.sl (.int .i64) u .no,.sl (.int .i64) l .no]]=>some ([u.length<=1000,l.length<=1000,0<=n,n<=3],.res (edV (fK n u l) (fL n u l)) [] [],[])
 |_=>none
theorem v83:VI U1 Tryz.f98 [some (.pair bC (.pair bC .unit))] D83:=by
 refine dH λa=>?_;unfold D83;split
 rotate_left
 trivial;rename_i n u l;intro hp;obtain⟨h1,h2,h3,h4,-⟩:=hp;refine jx (A:=aB (decide (n=0)) (u=fK n u l/\l=fL n u l/\True) (aB (decide (n=1)) (u.length<=1000/\l.length<=1000/\l.reverse=fK n u l/\u.reverse=fL n u l/\True) (aB (decide (n=2)) (u.length<=1000/\l.length<=1000/\u.reverse=fK n u l/\l.reverse=fL n u l/\True) (aB (decide (n=3)) (l=fK n u l/\u=fL n u l/\True) False)))) (by kernel_rfl) ?_;have e:n=0\/n=1\/n=2\/n=3:=ab
 rcases e with rfl|rfl|rfl|rfl;exact⟨rfl,rfl,trivial⟩;exact⟨h1,h2,rfl,rfl,trivial⟩;exact⟨h1,h2,rfl,rfl,trivial⟩;exact⟨rfl,rfl,trivial⟩
def U2:eM:=(U1.cG 95 λa=>dS (D80 a)).cG 98 λa=>dS (D83 a)
abbrev wkV(u l:br)(w:Int)(ls:br):TV:=.agg [.sl bY u .no,.sl bY l .no,aV w,.sl bY ls .no,.sl bY u .no,.sl bY l .no,.sl bY l.reverse .no,.sl bY u.reverse .no,.sl bY u.reverse .no,.sl bY l.reverse .no,.sl bY l .no,.sl bY u .no]
def D50:cp->Dn
 |[.agg [.sl (.int .i64) u .no,.sl (.int .i64) l .no,.val (.int .i64 w),.sl (.int .i64) ls .no]]=>some ([u.length<=1000,l.length<=1000],.res (wkV u l w ls) [] [],[(4,.un 5)])
 |_=>none
theorem v50:VI U2 Tryz.f61 [none] D50:=by
 refine dH λa=>?_;unfold D50;split
 rotate_left
 trivial;rename_i u l w ls;intro hp;refine jx (A:=u.length<=1000/\l.length<=1000/\(0:Int)<=0/\(0:Int)<=3/\True/\cR (1:Int)/\u.length<=1000/\l.length<=1000/\(0:Int)<=1/\(1:Int)<=3/\True/\cR (2:Int)/\u.length<=1000/\l.length<=1000/\(0:Int)<=2/\(2:Int)<=3/\True/\cR (3:Int)/\u.length<=1000/\l.length<=1000/\(0:Int)<=3/\(3:Int)<=3/\True/\cR (4:Int)/\u=u/\l=l/\w=w/\ls=ls/\fK (0:Int) u l=u/\fL (0:Int) u l=l/\fK (1:Int) u l=l.reverse/\fL (1:Int) u l=u.reverse/\fK (2:Int) u l=u.reverse/\fL (2:Int) u l=l.reverse/\fK (3:Int) u l=l/\fL (3:Int) u l=u/\True) (by kernel_rfl) ?_;obtain⟨h1,h2,-⟩:=hp;simp only[cR]
 repeat' (first|exact h1|exact h2|omega|rfl|trivial|apply And.intro)
section
variable {bI:b9} (tk:CX bI) (tr:aaJ bI)
theorem cU{k:Nat}{T:eM}(h:ic bI k T):∀m,ic bI (m+k) T
 |0=>by rwa [iw]
 |m+1=>by have:=fU (cU h m);rwa [Nat.add_right_comm]at this
theorem Ot{T:eM}{k:Nat}(tr:aaJ bI)(hT:ic bI k T):ic bI k (T.cG 133 aeI):=KN hT λn a p s hs hp=>by unfold aeI at hs;split at hs;rename_i l;cases hs;intro bO hd;obtain⟨d,_,rfl,h1,h2⟩:=aj hd;rw[aQ h2];obtain⟨r,k1,k2,k3⟩:=tr.rev l d hp.1 h1;exact⟨r,_,by simp only[yN,kV,k1,k2,if_true],k2,k3,rfl,rfl,trivial⟩;cases hs
include tk tr
theorem aaa:ic bI 1 U1:=mg tk (dN tk) an Tryz.func126 rfl agC (mg tk (Ot tr (dN tk)) an Tryz.func125 rfl aiY (mg tk (Ot tr (dN tk)) an Tryz.func124 rfl aiZ (mg tk (dN tk) an Tryz.func123 rfl v99 (mg tk (dN tk) an Tryz.func122 rfl v98 (mg tk (dN tk) an Tryz.func91 rfl v79 (fU (Ot tr (dN tk))))))))
theorem adQ:ic bI 2 U2:=mg tk (aaa tk tr) an Tryz.func98 rfl v83 (mg tk (aaa tk tr) an Tryz.func95 rfl v80 (fU (aaa tk tr)))
def W8:eM:=((T8.cG 91 λa=>dS (D79 a)).cG 95 λa=>dS (D80 a)).cG 61 λa=>dS (D50 a)
end
end Go.Tv
namespace Go.Tv
open Go Go.Di Go.Proofs
variable {P:Program}
def aic(kt:TT)(x:kt.den):List kt.den->Nat->Option (Nat×Value)
 |[],_=>none
 |y::l,i=>bif @decide (x=y) (Vp kt x y)then some (i,.bool true)else aic kt x l (i+1)
end Go.Tv
namespace Go.Tv
open Go Go.Di Go.Proofs
abbrev mm:Type:=Bool×(Int×Int×Int×Unit)×Unit
def o1(na nb:Int)(x:mm):mm:=(!x.1,(mw x.2.1.2.1 1,mw x.2.1.1 1,x.2.1.2.2.1+nb-na,()),())
def o2(na nb:Int)(x:mm):mm:=(x.1,(mw x.2.1.1 2,mw x.2.1.2.1 2,na-nb-x.2.1.2.2.1,()),())
def o3(x:mm):mm:=(!x.1,(mw x.2.1.2.1 3,mw x.2.1.1 3,-x.2.1.2.2.1,()),())
def D56:cp->Dn
 |[.agg [.val (.bool t),.val (.int .i64 u),.val (.int .i64 l),.val (.int .i64 s)],.val (.int .i64 na),.val (.int .i64 nb)]=>some ([-10000<=s,s<=10000,0<=na,na<=1000,0<=nb,nb<=1000],.res (.agg [kR (!t),aV (mw l 1),aV (mw u 1),aV (s+nb-na),kR t,aV (mw u 2),aV (mw l 2),aV (na-nb-s),kR (!t),aV (mw l 3),aV (mw u 3),aV (-s)]) [] [],[])
 |_=>none
def v56.q1 (p0:Bool)(p1 p2 p3 p4:Int)(p5:Prop):Prop:=p0=p0/\IntKind.i64.wrap (↑(BitVec.ofInt 64 p1^^^BitVec.ofInt 64 p2).toNat:Int)=mw p1 p2/\IntKind.i64.wrap (↑(BitVec.ofInt 64 p3^^^BitVec.ofInt 64 p2).toNat:Int)=mw p3 p2/\p4=p4/\p5
def bM(ua la qa ub lb qb:br)(w:Int):List (Int×Int×Int×Unit):=qa.flatMap λx=>qb.flatMap λy=>(yG (fL x ua la) (fK y ub lb) w (ub.length+ua.length+1)).map λs=>(x,y,s,())
structure aeG (bI:b9):Prop where
 acP:∀(ua la qa ub lb qb:br)(wa wb:Int) d1 d2,Ok ua la wa qa->Ok ub lb wb qb->RT fF [] (wkV ua la wa qa) d1->RT fF [] (wkV ub lb wb qb) d2->∃r,bI 60 [d1,d2]=some r/\r.pure=true/\RT fF [] (.sl bn (bM ua la qa ub lb qb (wa+wb)) .no) r
def S60:cp->Sp
 |[.agg [.sl (.int .i64) ua .no,.sl (.int .i64) la .no,.val (.int .i64 wa),.sl (.int .i64) qa .no,.sl (.int .i64) a0 .no,.sl (.int .i64) a1 .no,.sl (.int .i64) a2 .no,.sl (.int .i64) a3 .no,.sl (.int .i64) a4 .no,.sl (.int .i64) a5 .no,.sl (.int .i64) a6 .no,.sl (.int .i64) a7 .no],.agg [.sl (.int .i64) ub .no,.sl (.int .i64) lb .no,.val (.int .i64 wb),.sl (.int .i64) qb .no,.sl (.int .i64) b0 .no,.sl (.int .i64) b1 .no,.sl (.int .i64) b2 .no,.sl (.int .i64) b3 .no,.sl (.int .i64) b4 .no,.sl (.int .i64) b5 .no,.sl (.int .i64) b6 .no,.sl (.int .i64) b7 .no]]=>some ([Ok ua la wa qa,Ok ub lb wb qb,a0=ua,a1=la,a2=la.reverse,a3=ua.reverse,a4=ua.reverse,a5=la.reverse,a6=la,a7=ua,b0=ub,b1=lb,b2=lb.reverse,b3=ub.reverse,b4=ub.reverse,b5=lb.reverse,b6=lb,b7=ub],.res (.sl bn (bM ua la qa ub lb qb (wa+wb)) .no) [] [])
 |_=>none
theorem tC{α β:Type}{f:α->List β}{c:Nat}:∀{l:List α},(∀x∈l,(f x).length<=c)->(l.flatMap f).length<=l.length*c
 |[],_=>ae
 |x::l,h=>by have h1:=h x ae;have h2:=tC (f:=f) (l:=l) λy hy=>h y (by simp[hy]);rw[cz,cn,di,j8];omega
theorem Q5:∀(l:br)(c:Int),(∀x∈l,c<=x/\x<=3)->l.Pairwise (·<·)->(l.length:Int)<=max 0 (4-c)
 |[],c,_,_=>by simp;omega
 |x::l,c,h,hp=>by have h1:=h x ae;rw[List.pairwise_cons]at hp;have h2:=Q5 l (x+1) (λy hy=>⟨hp.1 y hy,(h y (by simp[hy])).2⟩) hp.2;rw[di];omega
theorem q_len{u l q:br}{w:Int}(h:Ok u l w q):q.length<=4:=by have:=Q5 q 0 h.CH h.U4;omega
theorem XW{ua la qa ub lb qb:br}{w wa wb:Int}(ha:Ok ua la wa qa)(hb:Ok ub lb wb qb):(bM ua la qa ub lb qb w).length<=272:=by have h1:=q_len ha;have h2:=q_len hb;have h3:=ha.n8;have h4:=hb.n8;unfold bM;refine bt (tC (c:=68) λi _=>?_) ab;refine bt (tC (c:=17) λj _=>?_) ab;rw[List.length_map,yG];refine bt (tK _ _) ?_;simp only[List.length_map,List.length_range];omega
def eqW(x y:mm):Bool:=(x.1==y.1)&&(((x.2.1.1==y.2.1.1)&&((x.2.1.2.1==y.2.1.2.1)&&((x.2.1.2.2.1==y.2.1.2.2.1)&&true)))&&true)
def ahl(na nb:Int)(q:List mm×Int)(w:mm):List mm×Int:=
 (wX lF w q.1,bif AU lF (o1 na nb w) (wX lF w q.1)then q.2 else bif (!eqW (o2 na nb w) w&&AU lF (o2 na nb w) (wX lF w q.1))then q.2 else bif AU lF (o3 w) (wX lF w q.1)then q.2 else q.2+1)
def kQ(na nb:Int)(t:Bool)(q:List mm×Int)(l:List (Int×Int×Int×Unit)):List mm×Int:=l.foldl (λq s=>ahl na nb q (t,s,())) q
def ahk(ua la qa ub lb qb:br)(wa wb:Int):Int:=(kQ ub.length ua.length true (kQ ua.length ub.length false ([],0) (bM ua la qa ub lb qb (wa+wb))) (bM ub lb qb ua la qa (wb+wa))).2
section
variable {na nb:Int} {t:Bool} {q:List mm×Int} {l:List (Int×Int×Int×Unit)} {i:Nat}
variable {w:mm}
end
def akp(na nb:Int)(t:Bool)(q:List mm×Int)(l:List (Int×Int×Int×Unit))(i:Nat)(d:Int×Int×Int×Unit)(v:Int):Prop:=
 cR ((i:Int)+1)/\∃j:Nat,v=(kQ na nb t q (l.take j)).2/\(i:Int)+1=(j:Int)/\wX lF (t,l.getD i d,()) (kQ na nb t q (l.take i)).1=(kQ na nb t q (l.take j)).1/\j<=l.length/\l.length-j<l.length-i
def F1:eM:=(T0.cG 110 λa=>dS (D56 a)).cG 60 S60
def D31:cp->Dn
 |[.agg [.sl (.int .i64) ua .no,.sl (.int .i64) la .no,.val (.int .i64 wa),.sl (.int .i64) qa .no,.sl (.int .i64) a0 .no,.sl (.int .i64) a1 .no,.sl (.int .i64) a2 .no,.sl (.int .i64) a3 .no,.sl (.int .i64) a4 .no,.sl (.int .i64) a5 .no,.sl (.int .i64) a6 .no,.sl (.int .i64) a7 .no],.agg [.sl (.int .i64) ub .no,.sl (.int .i64) lb .no,.val (.int .i64 wb),.sl (.int .i64) qb .no,.sl (.int .i64) b0 .no,.sl (.int .i64) b1 .no,.sl (.int .i64) b2 .no,.sl (.int .i64) b3 .no,.sl (.int .i64) b4 .no,.sl (.int .i64) b5 .no,.sl (.int .i64) b6 .no,.sl (.int .i64) b7 .no]]=>some ([Ok ua la wa qa,Ok ub lb wb qb,a0=ua,a1=la,a2=la.reverse,a3=ua.reverse,a4=ua.reverse,a5=la.reverse,a6=la,a7=ua,b0=ub,b1=lb,b2=lb.reverse,b3=ub.reverse,b4=ub.reverse,b5=lb.reverse,b6=lb,b7=ub],.res (aV (ahk ua la qa ub lb qb wa wb)) [] [],
  [(5,.un 3),(24,.un 4),(15,.dep λte _=>match te.getD 8 .unk with
   |.val (.bool true)=>.ex Nat λi=>.st {sl:=[(32,aV i),(6,aV (kQ ub.length ua.length true (kQ ua.length ub.length false ([],0) (bM ua la qa ub lb qb (wa+wb))) ((bM ub lb qb ua la qa (wb+wa)).take i)).2)],mp:=[(2,⟨lF,(kQ ub.length ua.length true (kQ ua.length ub.length false ([],0) (bM ua la qa ub lb qb (wa+wb))) ((bM ub lb qb ua la qa (wb+wa)).take i)).1⟩)],cQ:=[i<=(bM ub lb qb ua la qa (wb+wa)).length],m:=(bM ub lb qb ua la qa (wb+wa)).length-i}
   |_=>.ex Nat λi=>.st {sl:=[(32,aV i),(6,aV (kQ ua.length ub.length false ([],0) ((bM ua la qa ub lb qb (wa+wb)).take i)).2)],mp:=[(2,⟨lF,(kQ ua.length ub.length false ([],0) ((bM ua la qa ub lb qb (wa+wb)).take i)).1⟩)],cQ:=[i<=(bM ua la qa ub lb qb (wa+wb)).length],m:=(bM ua la qa ub lb qb (wa+wb)).length-i})])
 |_=>none
def v31.q1 (p0 p1:List bY.den)(p2:Int)(p3:List bY.den)(p4:Prop):Prop:=p0=p0/\p1=p1/\p2=p2/\p3=p3/\p0=p0/\p1=p1/\p1.reverse=p1.reverse/\p0.reverse=p0.reverse/\p0.reverse=p0.reverse/\p1.reverse=p1.reverse/\p1=p1/\p0=p0/\p4
def v31.q2 (p0 p1:List bY.den)(p2:Int)(p3 p4 p5:List bY.den)(p6:Int)(p7:List bY.den)(p8:Prop):Prop:=v31.q1 p0 p1 p2 p3 (v31.q1 p4 p5 p6 p7 p8)
def v31.q3 (p0:Nat)(p1 p2 p3 p4 p5 p6:List bY.den)(p7 p8 p9:Int):Prop:=cR ((↑p0:Int)+1)/\∃(a:Nat),(0:Int)=0/\p9=(kQ (↑p1.length:Int) (↑p2.length:Int) true (kQ (↑p2.length:Int) (↑p1.length:Int) false ([],(0:Int)) (bM p2 p3 p4 p1 p5 p6 (p7+p8))) (List.take a (bM p1 p5 p6 p2 p3 p4 (p8+p7)))).2/\true=true/\[false,true]=[false,true]/\(2:Int)=2/\(1:Int)=1/\true=true/\[false,true]=[false,true]/\1=1/\0=0/\true=true/\v31.q2 p2 p3 p7 p4 p1 p5 p8 p6 (true=true/\v31.q2 p1 p5 p8 p6 p2 p3 p7 p4 (v31.q2 p1 p5 p8 p6 p2 p3 p7 p4 (bM p1 p5 p6 p2 p3 p4 (p8+p7)=bM p1 p5 p6 p2 p3 p4 (p8+p7)/\(↑(bM p1 p5 p6 p2 p3 p4 (p8+p7)).length:Int)=(↑(bM p1 p5 p6 p2 p3 p4 (p8+p7)).length:Int)/\(↑p0:Int)+1=(↑a:Int)/\(1:Int)=1/\v31.q2 p2 p3 p7 p4 p1 p5 p8 p6 (wX lF (true,(((bM p1 p5 p6 p2 p3 p4 (p8+p7)).getD p0 bo).1,((bM p1 p5 p6 p2 p3 p4 (p8+p7)).getD p0 bo).2.1,((bM p1 p5 p6 p2 p3 p4 (p8+p7)).getD p0 bo).2.2.1,()),()) (kQ (↑p1.length:Int) (↑p2.length:Int) true (kQ (↑p2.length:Int) (↑p1.length:Int) false ([],(0:Int)) (bM p2 p3 p4 p1 p5 p6 (p7+p8))) (List.take p0 (bM p1 p5 p6 p2 p3 p4 (p8+p7)))).1=(kQ (↑p1.length:Int) (↑p2.length:Int) true (kQ (↑p2.length:Int) (↑p1.length:Int) false ([],(0:Int)) (bM p2 p3 p4 p1 p5 p6 (p7+p8))) (List.take a (bM p1 p5 p6 p2 p3 p4 (p8+p7)))).1/\v31.q2 p2 p3 p7 p4 p1 p5 p8 p6 (v31.q2 p1 p5 p8 p6 p2 p3 p7 p4 (a<=(bM p1 p5 p6 p2 p3 p4 (p8+p7)).length/\(bM p1 p5 p6 p2 p3 p4 (p8+p7)).length-a<(bM p1 p5 p6 p2 p3 p4 (p8+p7)).length-p0))))))
def v31.q4 (p0:Nat)(p1 p2 p3 p4 p5 p6:List bY.den)(p7 p8 p9:Int):Prop:=cR ((↑p0:Int)+1)/\∃(a:Nat),(0:Int)=0/\p9=(kQ (↑p1.length:Int) (↑p2.length:Int) false ([],(0:Int)) (List.take a (bM p1 p3 p4 p2 p5 p6 (p7+p8)))).2/\false=false/\[false,true]=[false,true]/\(2:Int)=2/\(0:Int)=0/\true=true/\[false,true]=[false,true]/\0=0/\0=0/\false=false/\v31.q2 p1 p3 p7 p4 p2 p5 p8 p6 (false=false/\v31.q2 p1 p3 p7 p4 p2 p5 p8 p6 (bM p1 p3 p4 p2 p5 p6 (p7+p8)=bM p1 p3 p4 p2 p5 p6 (p7+p8)/\(↑(bM p1 p3 p4 p2 p5 p6 (p7+p8)).length:Int)=(↑(bM p1 p3 p4 p2 p5 p6 (p7+p8)).length:Int)/\(↑p0:Int)+1=(↑a:Int)/\v31.q2 p1 p3 p7 p4 p2 p5 p8 p6 (wX lF (false,(((bM p1 p3 p4 p2 p5 p6 (p7+p8)).getD p0 bo).1,((bM p1 p3 p4 p2 p5 p6 (p7+p8)).getD p0 bo).2.1,((bM p1 p3 p4 p2 p5 p6 (p7+p8)).getD p0 bo).2.2.1,()),()) (kQ (↑p1.length:Int) (↑p2.length:Int) false ([],(0:Int)) (List.take p0 (bM p1 p3 p4 p2 p5 p6 (p7+p8)))).1=(kQ (↑p1.length:Int) (↑p2.length:Int) false ([],(0:Int)) (List.take a (bM p1 p3 p4 p2 p5 p6 (p7+p8)))).1/\v31.q2 p1 p3 p7 p4 p2 p5 p8 p6 (a<=(bM p1 p3 p4 p2 p5 p6 (p7+p8)).length/\(bM p1 p3 p4 p2 p5 p6 (p7+p8)).length-a<(bM p1 p3 p4 p2 p5 p6 (p7+p8)).length-p0))))
def v31.q5 (p0 p1 p2 p3 p4 p5:List bY.den)(p6 p7:Int)(p8:Nat):Prop:=cR (2:Int)/\GH Tp 142 lF/\aB (AU lF (!true,(mw ((bM p0 p1 p2 p3 p4 p5 (p6+p7)).getD p8 bo).2.1 (3:Int),mw ((bM p0 p1 p2 p3 p4 p5 (p6+p7)).getD p8 bo).1 (3:Int),-((bM p0 p1 p2 p3 p4 p5 (p6+p7)).getD p8 bo).2.2.1,()),()) (wX lF (true,(((bM p0 p1 p2 p3 p4 p5 (p6+p7)).getD p8 bo).1,((bM p0 p1 p2 p3 p4 p5 (p6+p7)).getD p8 bo).2.1,((bM p0 p1 p2 p3 p4 p5 (p6+p7)).getD p8 bo).2.2.1,()),()) (kQ (↑p0.length:Int) (↑p3.length:Int) true (kQ (↑p3.length:Int) (↑p0.length:Int) false ([],(0:Int)) (bM p3 p4 p5 p0 p1 p2 (p7+p6))) (List.take p8 (bM p0 p1 p2 p3 p4 p5 (p6+p7)))).1)) (v31.q3 p8 p0 p3 p4 p5 p1 p2 p7 p6 (kQ (↑p0.length:Int) (↑p3.length:Int) true (kQ (↑p3.length:Int) (↑p0.length:Int) false ([],(0:Int)) (bM p3 p4 p5 p0 p1 p2 (p7+p6))) (List.take p8 (bM p0 p1 p2 p3 p4 p5 (p6+p7)))).2) (cR (3:Int)/\cR ((kQ (↑p0.length:Int) (↑p3.length:Int) true (kQ (↑p3.length:Int) (↑p0.length:Int) false ([],(0:Int)) (bM p3 p4 p5 p0 p1 p2 (p7+p6))) (List.take p8 (bM p0 p1 p2 p3 p4 p5 (p6+p7)))).2+1)/\v31.q3 p8 p0 p3 p4 p5 p1 p2 p7 p6 ((kQ (↑p0.length:Int) (↑p3.length:Int) true (kQ (↑p3.length:Int) (↑p0.length:Int) false ([],(0:Int)) (bM p3 p4 p5 p0 p1 p2 (p7+p6))) (List.take p8 (bM p0 p1 p2 p3 p4 p5 (p6+p7)))).2+1))
def v31.q6 (p0 p1 p2 p3 p4 p5:List bY.den)(p6 p7:Int)(p8:Nat):Prop:=cR (2:Int)/\GH Tp 142 lF/\aB (AU lF (!false,(mw ((bM p0 p1 p2 p3 p4 p5 (p6+p7)).getD p8 bo).2.1 (3:Int),mw ((bM p0 p1 p2 p3 p4 p5 (p6+p7)).getD p8 bo).1 (3:Int),-((bM p0 p1 p2 p3 p4 p5 (p6+p7)).getD p8 bo).2.2.1,()),()) (wX lF (false,(((bM p0 p1 p2 p3 p4 p5 (p6+p7)).getD p8 bo).1,((bM p0 p1 p2 p3 p4 p5 (p6+p7)).getD p8 bo).2.1,((bM p0 p1 p2 p3 p4 p5 (p6+p7)).getD p8 bo).2.2.1,()),()) (kQ (↑p0.length:Int) (↑p3.length:Int) false ([],(0:Int)) (List.take p8 (bM p0 p1 p2 p3 p4 p5 (p6+p7)))).1)) (v31.q4 p8 p0 p3 p1 p2 p4 p5 p6 p7 (kQ (↑p0.length:Int) (↑p3.length:Int) false ([],(0:Int)) (List.take p8 (bM p0 p1 p2 p3 p4 p5 (p6+p7)))).2) (cR (3:Int)/\cR ((kQ (↑p0.length:Int) (↑p3.length:Int) false ([],(0:Int)) (List.take p8 (bM p0 p1 p2 p3 p4 p5 (p6+p7)))).2+1)/\v31.q4 p8 p0 p3 p1 p2 p4 p5 p6 p7 ((kQ (↑p0.length:Int) (↑p3.length:Int) false ([],(0:Int)) (List.take p8 (bM p0 p1 p2 p3 p4 p5 (p6+p7)))).2+1))
def v31.q7 (p0 p1:List bY.den)(p2:Prop):Prop:=p0=p0/\p1=p1/\p1.reverse=p1.reverse/\p0.reverse=p0.reverse/\p0.reverse=p0.reverse/\p1.reverse=p1.reverse/\p1=p1/\p0=p0/\p2
def v31.q8 (p0:Nat)(p1 p2 p3 p4 p5 p6:List bY.den)(p7 p8:Int)(p9:Prop):Prop:=(0<=(↑p0:Int)/\(↑p0:Int)<(↑(bM p1 p2 p3 p4 p5 p6 (p7+p8)).length:Int))/\GH Tp 142 lF/\(-10000:Int)<=((bM p1 p2 p3 p4 p5 p6 (p7+p8)).getD p0 bo).2.2.1/\((bM p1 p2 p3 p4 p5 p6 (p7+p8)).getD p0 bo).2.2.1<=10000/\0<=(↑p1.length:Int)/\(↑p1.length:Int)<=1000/\0<=(↑p4.length:Int)/\(↑p4.length:Int)<=1000/\GH Tp 142 lF/\p9
end Go.Tv
