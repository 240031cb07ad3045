import Derived.Test.YtedcgbkilmlbhaaPk12
import Derived.Test.YtedcgbkilmlbhaaPk06
set_option maxHeartbeats 1000000
set_option maxRecDepth 100000
namespace Go.Tv
open Go Go.Di Go.Proofs
abbrev pcS(f:List Int->List Int->Int->List Int->List Prop):tC:=.ex (List Int) λu=>.ex (List Int) λl=>.ex Int λw=>.ex (List Int) λls=>.ex (List Int) λr=>.ex Int λz=>.res (pcV u l w ls) (Cw r z) (f u l w ls)
def D12:List TV->List TV->Dn
 |[.ptr 0 0,.val (.int .i64 c)],[.sl (.int .i64) _ .no,.val (.int .u64 _)]=>some ([3<=c,c<=8],pcS λu l w ls=>[Ok u l w ls,(u.length:Int)<=c],[])
 |_,_=>none
theorem v12:VC T4 Try.f8 [some aU] [some bq,some (.int .u64)] D12:=by
 refine pM λa cs=>?_;unfold D12;split
 rotate_left
 .trivial
 rename_i c r z;intro hp;obtain⟨h1,h2,-⟩:=hp;refine pE (A:=(-1000:Int)<=3/\(3:Int)<=1000/\(-1000:Int)<=c/\c<=1003/\c<=5000/\∀(a:Int)(z:List Int)(y:Int),3<=a->a<=c\/a=3->0<=a/\a<=100/\∀(w X:List Int)(Y:Int),(↑w.length:Int)=a->ya w->0<=a/\a<=100/\∀(u h:List Int)(g:Int),(↑u.length:Int)=a->ya u->(2:Int)<=1000/\(-10000:Int)<=2/\∀(a:Int)(f:List Int)(e:Int),0<=a->a<=2\/a=0->0<4/\4<=1000/\∀(r:Int)(d:List Int)(b:Int),r∈[(0:Int),(0:Int),(1:Int),a]->∀(a n:List Int)(k:Int),a≠[]->(∀(x:Int),x∈a->0<=x/\x<=3)->List.Pairwise (λ(x1 x2:Int)=>x1<x2) a->∃(v:List Int),∃(s:List Int),∃(t:Int),∃(m:List Int),∃(j:List Int),∃(i:Int),w=v/\u=s/\r=t/\a=m/\n=j/\k=i/\Ok v s t m/\(↑v.length:Int)<=c/\True) (by kernel_rfl) ?_;simp only[ek,fe,fS,ij,iz,dw,and_true,true_and,eq_self];refine⟨by omega,by omega,by omega,by omega,by omega,λn r1 z1 h3 h4=>⟨by omega,by omega,λu r2 z2 h5 h6=>⟨by omega,by omega,λl r3 z3 h7 h8=>⟨by omega,by omega,λk r4 z4 h9 ue=>⟨by omega,by omega,λw r5 z5 HI ls r6 z6 Yf h13 h14=>?_⟩⟩⟩⟩⟩;have h15:0<=w/\w<=2:=by simp at HI;omega
 exact⟨u,l,w,ls,r6,z6,rfl,rfl,rfl,rfl,rfl,rfl,⟨by omega,by omega,by omega,h6,h8,h15.1,h15.2,Yf,h13,h14⟩,by omega⟩
def D77:List TV->Dn
 |[.agg [.sl (.int .i64) u .no,.sl (.int .i64) l .no,.val (.int .i64 w),.sl (.int .i64) ls .no]]=>some ([Sh u l ls],.res (bp (uf u l w ls)) [] [],
  [(3,.un 3),(19,.ex Nat λi=>.st {sl:=[(71,bp i)],cO:=[i<=ls.length,oI ls 0=oI ls i],m:=ls.length-i})])
 |_=>none
theorem v77:VI T4 Try.f80 [some cS] D77:=by
 refine gT λa=>?_;unfold D77;split
 rotate_left
 .trivial
 rename_i u l w ls;change List Int at u l ls;intro hp;obtain⟨h1,h2,h3⟩:=hp.1;refine pE (A:=((0:Int)<=0/\0<(↑(2:Nat):Int))/\aS (decide ((↑u.length:Int)<3)) (7=uf u l w ls/\True) (aS (decide ((↑u.length:Int)<(↑u.length:Int))) (7=uf u l w ls/\True) (aS (decide ((↑u.length:Int)>8)) (6=uf u l w ls/\True) (aS (decide ((↑u.length:Int)>(↑u.length:Int))) (6=uf u l w ls/\True) (dw (1:Int)/\((0:Int)<=1/\1<(↑(2:Nat):Int))/\aS (decide ((↑l.length:Int)<3)) (7=uf u l w ls/\True) (aS (decide ((↑l.length:Int)<(↑u.length:Int))) (7=uf u l w ls/\True) (aS (decide ((↑l.length:Int)>8)) (6=uf u l w ls/\True) (aS (decide ((↑l.length:Int)>(↑u.length:Int))) (6=uf u l w ls/\True) (dw (2:Int)/\u.length<=1000/\aS (!u.all (tY (9:Int))) (1=uf u l w ls/\True) (l.length<=1000/\aS (!l.all (tY (9:Int))) (1=uf u l w ls/\True) (aS (decide (w<0)) (1=uf u l w ls/\True) (aS (decide (w>2)) (1=uf u l w ls/\True) (aS ((↑ls.length:Int)==0) (7=uf u l w ls/\True) ((∃(a:Nat),0=(↑a:Int)/\a<=ls.length/\oI ls 0=oI ls a/\ls.length-a<1000000)/\∀(a:Nat),a<=ls.length->oI ls 0=oI ls a->aS (decide ((↑a:Int)<(↑ls.length:Int))) ((0<=(↑a:Int)/\(↑a:Int)<(↑ls.length:Int))/\aS (decide (ls.getD a 0<0)) (8=uf u l w ls/\True) (aS (decide (ls.getD a 0>3)) (8=uf u l w ls/\True) (aS (decide ((↑a:Int)>0)) (dw ((↑a:Int)-1)/\(0<=(↑a:Int)-1/\(↑a:Int)-1<(↑ls.length:Int))/\aS (decide (ls.getD a 0<=ls.getD ((↑a:Int)-1).toNat (0:Int))) (5=uf u l w ls/\True) (dw ((↑a:Int)+1)/\∃(x:Nat),ls=ls/\(↑ls.length:Int)=(↑ls.length:Int)/\(↑a:Int)+1=(↑x:Int)/\u=u/\l=l/\w=w/\ls=ls/\x<=ls.length/\oI ls 0=oI ls x/\ls.length-x<ls.length-a)) (dw ((↑a:Int)+1)/\∃(x:Nat),ls=ls/\(↑ls.length:Int)=(↑ls.length:Int)/\(↑a:Int)+1=(↑x:Int)/\u=u/\l=l/\w=w/\ls=ls/\x<=ls.length/\oI ls 0=oI ls x/\ls.length-x<ls.length-a)))) (0=uf u l w ls/\True))))))))))))))) (by kernel_rfl) ?_;simp only[ek,fe,fS,ij,iz,dw,and_true,true_and,eq_self];refine⟨by omega,λa1=>?_,λa1=>⟨λa2=>by omega,λ_=>⟨λa3=>?_,λa3=>⟨λ_=>by omega,λ_=>⟨by omega,by omega,λa4=>?_,λa4=>⟨λa5=>?_,λa5=>⟨λa6=>?_,λa6=>⟨λa7=>?_,λa7=>⟨by omega,by omega,?_⟩⟩⟩⟩⟩⟩⟩⟩⟩;.rw[uf,if_pos (by omega)]
 .rw[uf,if_neg (by omega),if_pos (by omega)]
 .rw[uf,if_neg (by omega),if_neg (by omega),if_pos (by omega)]
 .rw[uf,if_neg (by omega),if_neg (by omega),if_pos (by omega)]
 .rw[uf,if_neg (by omega),if_neg (by omega),if_neg (by omega),if_pos (by omega)]
 .rw[uf,if_neg (by omega),if_neg (by omega),if_neg (by omega),if_pos (by omega)]
 have e1:∀(_:u.all (tY 9)=false\/l.all (tY 9)=false\/w<0\/2<w),1=uf u l w ls:=λh=>by rw[uf,if_neg (by omega),if_neg (by omega),if_neg (by omega),if_neg (by omega),if_pos h]
 rw[mc];refine⟨λb1=>⟨by omega,?_⟩,λb1=>e1 (.inl b1)⟩;rw[mc];refine⟨λb2=>⟨λb3=>e1 (.inr (.inr (.inl b3))),λb3=>⟨λb4=>e1 (.inr (.inr (.inr b4))),λb4=>⟨λb5=>?_,λb5=>?_⟩⟩⟩,λb2=>e1 (.inr (.inl b2))⟩;.rw[uf,if_neg (by omega),if_neg (by omega),if_neg (by omega),if_neg (by omega),if_neg (by rw[b1,b2];simp;omega),if_pos (by omega)]
 have e:uf u l w ls=oI ls 0:=aa9 (by omega) (by omega) (by omega) (by omega) (by rw[b1];rfl) (by rw[b2];rfl) (by omega) (by omega) (by omega);rw[e];refine⟨⟨0,rfl,by omega,rfl,by omega⟩,λi k1 k2=>⟨λk3=>⟨by omega,λk4=>?_,λk4=>⟨λk5=>?_,λk5=>⟨λk6=>⟨by omega,by omega,λk7=>?_,λk7=>⟨by omega,i+1,by omega,by omega,k2.trans (Eg (by omega) (by omega) ?_),by omega⟩⟩,λk6=>⟨by omega,i+1,by omega,by omega,k2.trans (Eg (by omega) (by omega) (by omega)),by omega⟩⟩⟩⟩,λk3=>?_⟩⟩;.rw[k2,Ut (by omega) (.inl k4)]
 .rw[k2,Ut (by omega) (.inr (by omega))]
 .rw[k2,abN (by omega) (by omega) ⟨by omega,by rw[show i-1=((i:Int)-1).toNat by omega];exact k7⟩]
 .rw[show i-1=((i:Int)-1).toNat by omega];exactλh=>k7 h.2
 rw[k2,abO (by omega)]
def T5:eZ:=(T4.oJ 8 λa c=>dS (D12 a c)).dQ 80 λa=>dS (D77 a)
def D13:List TV->List TV->Dn
 |[.ptr 0 0,.agg [.sl (.int .i64) u .no,.sl (.int .i64) l .no,.val (.int .i64 w),.sl (.int .i64) ls .no]],[.sl (.int .i64) _ .no,.val (.int .u64 _)]=>some ([Ok u l w ls],pcS λu1 l1 w1 ls1=>[Ok u1 l1 w1 ls1,u1=l.map (9-·)],
  [(5,.ex (List Int) λu1=>.ex (List Int) λl1=>.ex Int λw1=>.ex (List Int) λls1=>.ex (List Int) λr=>.ex Int λz=>.ex Nat λi=>.st {sl:=[(6,bp i)],pl:=[(0,Cw r z),(3,[.sl cS ((l.take i).map (9-·)) (.je 4),.sl cS l1 .no,bp w1,.sl cS ls1 .no])],own:=[(3,1)],cO:=[i<=l.length,Ok u1 l1 w1 ls1,l1.length=l.length],m:=l.length-i})])
 |_,_=>none
theorem v13:VC T5 Try.f9 [some aU] [some bq,some (.int .u64)] D13:=by
 refine pM λa cs=>?_;unfold D13;split
 rotate_left
 .trivial
 rename_i u l w ls r z;intro hp;have h1:=hp.1;refine pE (A:=3<=(↑u.length:Int)/\(↑u.length:Int)<=8/\∀(a y:List Int)(z:Int)(d X:List Int)(Y:Int),Ok a y z d->(↑a.length:Int)<=(↑u.length:Int)->0<=(↑u.length:Int)/\(↑u.length:Int)<=100/\∀(a c:List Int)(b:Int),(↑a.length:Int)=(↑u.length:Int)->ya a->(∃(s:List Int),∃(r:List Int),∃(t:Int),∃(n:List Int),∃(i:List Int),∃(v:Int),∃(h:Nat),0=(↑h:Int)/\c=i/\b=v/\[]=List.map (λ(x:cS.den)=>(9:cS.den)-x) (List.take h l)/\a=r/\z=t/\d=n/\h<=l.length/\Ok s r t n/\r.length=l.length/\l.length-h<1000000)/\∀(a s:List Int)(r:Int)(t n:List Int)(i:Int)(v:Nat),v<=l.length->Ok a s r t->s.length=l.length->aS (decide ((↑v:Int)<(↑l.length:Int))) ((0<=(↑v:Int)/\(↑v:Int)<(↑l.length:Int))/\dw ((9:Int)-l.getD v 0)/\(List.map (λ(x:cS.den)=>(9:cS.den)-x) (List.take v l)).length+1<=1000000000/\dw ((↑v:Int)+1)/\∃(a:List Int),∃(m:List Int),∃(k:Int),∃(j:List Int),∃(f:List Int),∃(e:Int),∃(g:Nat),(↑v:Int)+1=(↑g:Int)/\n=f/\i=e/\u=u/\l=l/\w=w/\ls=ls/\(0:Int)=0/\List.map (λ(x:cS.den)=>(9:cS.den)-x) (List.take v l)++[(9:Int)-l.getD v 0]=List.map (λ(x:cS.den)=>(9:cS.den)-x) (List.take g l)/\s=m/\r=k/\t=j/\g<=l.length/\Ok a m k j/\m.length=l.length/\l.length-g<l.length-v) (∃(a:List Int),∃(m:List Int),∃(k:Int),∃(j:List Int),∃(f:List Int),∃(e:Int),List.map (λ(x:cS.den)=>(9:cS.den)-x) (List.take v l)=a/\s=m/\r=k/\t=j/\n=f/\i=e/\Ok a m k j/\a=List.map (λ(x:cS.den)=>(9:cS.den)-x) l/\True)) (by kernel_rfl) ?_;simp only[ek,fe,fS,ij,iz,dw,and_true,true_and,eq_self];have:=h1.n3;have:=h1.n8;have:=h1.len;refine⟨by omega,by omega,λu1 l1 w1 ls1 r1 z1 h2 h3=>⟨by omega,by omega,λo r2 z2 h4 h5=>⟨⟨o,o,w1,ls1,r2,z2,0,rfl,rfl,rfl,rfl,rfl,rfl,rfl,by omega,⟨by omega,by omega,rfl,h5,h5,h2.w0,h2.w2,h2.ne,h2.Mc,h2.asc⟩,by omega,by omega⟩,λu3 o w ls r3 z3 i h6 h7 h8=>⟨λh9=>?_,λh9=>?_⟩⟩⟩⟩;.have:=h1.hl _ (qd (l:=l) (i:=i) (by omega));exact⟨by omega,by omega,by simp;omega,by omega,u3,o,w,ls,r3,z3,i+1,by omega,rfl,rfl,FQ (f:=λx=>9-x) (by omega),rfl,rfl,rfl,by omega,h7,h8,by omega⟩
 rw[show i=l.length by omega,iH];exact⟨_,o,w,ls,r3,z3,rfl,rfl,rfl,rfl,rfl,rfl,W9 h7 h8 h1.hl,rfl⟩
def D59:List TV->Dn
 |[.sl (.pair (.sl (.int .i64)) (.pair (.sl (.int .i64)) (.pair (.int .i64) (.pair (.sl (.int .i64)) .unit)))) l .no]=>some ([l.length<=1000,∀p∈l,gv p],.res (bp (jT l)) [] [],
  [(3,.ex Nat λi=>.st {sl:=[(8,bp i)],cO:=[i<=l.length,jT (l.take i)=0],m:=l.length-i})])
 |_=>none
theorem v59:VI T5 Try.f66 [some cS] D59:=by
 refine gT λa=>?_;unfold D59;split
 rotate_left
 .trivial
 rename_i l;intro hp;obtain⟨h1,h2,-⟩:=hp;refine pE (A:=(∃(a:Nat),0=(↑a:Int)/\a<=l.length/\jT (List.take a l)=0/\l.length-a<1000000)/\∀(a:Nat),a<=l.length->jT (List.take a l)=0->aS (decide ((↑a:Int)<(↑l.length:Int))) ((0<=(↑a:Int)/\(↑a:Int)<(↑l.length:Int))/\Sh (l.getD a ([],[],0,[],())).1 (l.getD a ([],[],0,[],())).2.1 (l.getD a ([],[],0,[],())).2.2.2.1/\aS (uf (l.getD a ([],[],0,[],())).1 (l.getD a ([],[],0,[],())).2.1 (l.getD a ([],[],0,[],())).2.2.1 (l.getD a ([],[],0,[],())).2.2.2.1 !=0) (uf (l.getD a ([],[],0,[],())).1 (l.getD a ([],[],0,[],())).2.1 (l.getD a ([],[],0,[],())).2.2.1 (l.getD a ([],[],0,[],())).2.2.2.1=jT l/\True) (dw ((↑a:Int)+1)/\∃(x:Nat),l=l/\(↑l.length:Int)=(↑l.length:Int)/\(↑a:Int)+1=(↑x:Int)/\x<=l.length/\jT (List.take x l)=0/\l.length-x<l.length-a)) (0=jT l/\True)) (by kernel_rfl) ?_;simp only[ek,fe,fS,ij,iz,dw,and_true,true_and,eq_self];refine⟨⟨0,rfl,by omega,rfl,by omega⟩,λi k1 k2=>⟨λk3=>⟨by omega,uX (P:=gv) (by omega) h2,λk4=>⟨by omega,i+1,by omega,by omega,XT (by omega) k2 k4,by omega⟩,λk4=>(aba (by omega) k2 k4).symm⟩,λk3=>?_⟩⟩;rw[show i=l.length by omega,iH]at k2;rw[k2]
def T6:eZ:=(T5.oJ 9 λa c=>dS (D13 a c)).dQ 66 λa=>dS (D59 a)
def T7:eZ:=T6
def T8:eZ:=T7
section
variable {bH:bR} (tk:yx bH)
include tk
theorem acw:ko bH 5 T5:=wu tk (acy tk) (by decide) Try.func80 rfl v77 (Mb (acy tk) Try.func8 rfl v12 (lp (acy tk)))
theorem YQ:ko bH 6 T6:=wu tk (acw tk) (by decide) Try.func66 rfl v59 (Mb (acw tk) Try.func9 rfl v13 (lp (acw tk)))
end
end Go.Tv
namespace Go.Tv
open Go Go.Di Go.Proofs
end Go.Tv
namespace Go.Tv
open Go Go.Di Go.Proofs
def adS(la ub:List Int)(nb k:Nat):List Int:=((List.range k).map λ(j:Nat)=>(j:Int)-(nb:Int)).filterMap λs=>if 3<=(stA la ub s).2.2 then some ((stA la ub s).2.1-(stA la ub s).1)else none
def adQ(ua la:List Int)(x:Int)(ub lb:List Int)(y:Int):List Int:=adS (jv x ua la) (js y ub lb) ub.length (ub.length+ua.length+1)
def adR(ua la ub lb ys:List Int)(x:Int):List Int:=ys.flatMap (adQ ua la x ub lb)
def aiu(ua la lsa ub lb lsb:List Int):List Int:=lsa.flatMap (adR ua la ub lb lsb)
theorem aaD{n:Int}{u l:List Int}(h:l.length=u.length):(js n u l).length=u.length/\(jv n u l).length=u.length:=by unfold js jv;constructor<;>(repeat' split)<;>simp[h]
end Go.Tv
namespace Go.Tv
open Go Go.Di Go.Proofs
structure TY (bH:bR):Prop where
 rev:∀(l:List Int) d,l.length<=1000000->RT fA [] (.sl cS l .no) d->∃r,bH 83 [d]=some r/\r.pure=true/\RT fA [] (.sl cS l.reverse .no) r
def adt:List TV->Sp
 |[.sl (.int .i64) l .no]=>some ([l.length<=1000000],.res (.sl cS l.reverse .no) [] [])
 |_=>none
def D79:List TV->Dn
 |[.sl (.int .i64) l .no]=>some ([l≠[],l.length<=1000],.res (.sl cS l .no) [] [],[])
 |_=>none
theorem v79:VI T0 Try.f95 [some bq] D79:=by
 refine gT λa=>?_;unfold D79;split
 rotate_left
 .trivial
 rename_i l;change List Int at l;intro hp;obtain⟨h1,h2,-⟩:=hp;refine pE (A:=l≠[]/\0+l.length<=1000000000/\l=l/\True) (by kernel_rfl) ?_;exact⟨h1,by omega,rfl,trivial⟩
def D98:List TV->Dn
 |[.sl (.int .i64) l .no,.val (.int .i64 x)]=>some ([l.length<=1000],.res (bp (uM l x)) [] [],[(3,.ex Nat λi=>.st {sl:=[(8,bp i)],cO:=[i<=l.length,x∉l.take i],m:=l.length-i})])
 |_=>none
theorem v98:VI T0 Try.f82 [some cS] D98:=by
 refine gT λa=>?_;unfold D98;split
 rotate_left
 .trivial
 rename_i l x;change List Int at l;intro hp;have h1:=hp.1;refine pE (A:=(∃(a:Nat),0=(↑a:Int)/\a<=l.length/\¬x∈List.take a l/\l.length-a<1000000)/\∀(a:Nat),a<=l.length->¬x∈List.take a l->aS (decide ((↑a:Int)<(↑l.length:Int))) ((0<=(↑a:Int)/\(↑a:Int)<(↑l.length:Int))/\aS (x==l.getD a 0) ((↑a:Int)=uM l x/\True) (dw ((↑a:Int)+1)/\∃(y:Nat),l=l/\x=x/\(↑l.length:Int)=(↑l.length:Int)/\(↑a:Int)+1=(↑y:Int)/\y<=l.length/\¬x∈List.take y l/\l.length-y<l.length-a)) ((-1:Int)=uM l x/\True)) (by kernel_rfl) ?_;simp only[ek,fe,fS,ij,iz,dw,and_true,true_and,eq_self];refine⟨⟨0,by omega,by omega,by simp,by omega⟩,λi h2 h3=>⟨λh4=>⟨by omega,λh5=>?_,λh5=>⟨by omega,i+1,by omega,by omega,?_,by omega⟩⟩,λh4=>?_⟩⟩;.rw[Sg (by omega) h3 h5.symm]
 .rw[take_one (by omega)];simp only[eY,bI,not_or];exact⟨h3,h5⟩
 rw[show i=l.length by omega,iH]at h3;rw[uM,if_neg h3]
def D99:List TV->Dn
 |[.agg [.sl (.int .i64) u .no,.sl (.int .i64) l .no]]=>some ([],.res (edV u l) [] [],[])
 |_=>none
theorem v99:VI T0 Try.f73 [some (.pair bq (.pair bq .unit))] D99:=by
 refine gT λa=>?_;unfold D99;split
 rotate_left
 .trivial
 rename_i u l;intro hp;refine pE (A:=u=u/\l=l/\True) (by kernel_rfl) ?_;exact⟨rfl,rfl,trivial⟩
def T0r:eZ:=T0.dQ 83 adt
def adJ:List TV->Dn
 |[.agg [.sl (.int .i64) u .no,.sl (.int .i64) l .no]]=>some ([u.length<=1000,l.length<=1000],.res (edV l.reverse u.reverse) [] [],[])
 |_=>none
theorem aho:VI T0r Try.f74 [some (.pair bq (.pair bq .unit))] adJ:=by
 refine gT λa=>?_;unfold adJ;split
 rotate_left
 .trivial
 rename_i u l;intro hp;obtain⟨h1,h2,-⟩:=hp;refine pE (A:=l.length<=1000000/\u.length<=1000000/\l.reverse=l.reverse/\u.reverse=u.reverse/\True) (by kernel_rfl) ?_;exact⟨by omega,by omega,rfl,rfl,trivial⟩
def adI:List TV->Dn
 |[.agg [.sl (.int .i64) u .no,.sl (.int .i64) l .no]]=>some ([u.length<=1000,l.length<=1000],.res (edV u.reverse l.reverse) [] [],[])
 |_=>none
theorem ahn:VI T0r Try.f75 [some (.pair bq (.pair bq .unit))] adI:=by
 refine gT λa=>?_;unfold adI;split
 rotate_left
 .trivial
 rename_i u l;intro hp;obtain⟨h1,h2,-⟩:=hp;refine pE (A:=u.length<=1000000/\l.length<=1000000/\u.reverse=u.reverse/\l.reverse=l.reverse/\True) (by kernel_rfl) ?_;exact⟨by omega,by omega,rfl,rfl,trivial⟩
def adH:List TV->Dn
 |[.agg [.sl (.int .i64) u .no,.sl (.int .i64) l .no]]=>some ([],.res (edV l u) [] [],[])
 |_=>none
theorem afb:VI T0 Try.f76 [some (.pair bq (.pair bq .unit))] adH:=by
 refine gT λa=>?_;unfold adH;split
 rotate_left
 .trivial
 rename_i u l;intro hp;refine pE (A:=l=l/\u=u/\True) (by kernel_rfl) ?_;exact⟨rfl,rfl,trivial⟩
def U1:eZ:=(((((T0r.dQ 95 λa=>dS (D79 a)).dQ 82 λa=>dS (D98 a)).dQ 73 λa=>dS (D99 a)).dQ 74 λa=>dS (adJ a)).dQ 75 λa=>dS (adI a)).dQ 76 λa=>dS (adH a)
def D80:List TV->Dn
 |[.sl (.int .i64) l .no,.val (.int .i64 x)]=>some ([l.length<=1000],.res (iD (decide (x∈l))) [] [],[])
 |_=>none
theorem v80:VI U1 Try.f72 [some .bool] D80:=by
 refine gT λa=>?_;unfold D80;split
 rotate_left
 .trivial
 rename_i l x;change List Int at l;intro hp;have h1:=hp.1;refine pE (A:=l.length<=1000/\decide (uM l x>=0)=decide (x∈l)/\True) (by kernel_rfl) ?_;refine⟨h1,?_,trivial⟩;rw[decide_eq_decide,uM];split<;>simp_all
def D83:List TV->Dn
 |[.val (.int .i64 n),.agg [.sl (.int .i64) u .no,.sl (.int .i64) l .no]]=>some ([u.length<=1000,l.length<=1000,0<=n,n<=3],.res (edV (js n u l) (jv n u l)) [] [],[])
 |_=>none
theorem v83:VI U1 Try.f57 [some (.pair bq (.pair bq .unit))] D83:=by
 refine gT λa=>?_;unfold D83;split
 rotate_left
 .trivial
 rename_i n u l;intro hp;obtain⟨h1,h2,h3,h4,-⟩:=hp;refine pE (A:=aS (decide (n=0)) (u=js n u l/\l=jv n u l/\True) (aS (decide (n=1)) (u.length<=1000/\l.length<=1000/\l.reverse=js n u l/\u.reverse=jv n u l/\True) (aS (decide (n=2)) (u.length<=1000/\l.length<=1000/\u.reverse=js n u l/\l.reverse=jv n u l/\True) (aS (decide (n=3)) (l=js n u l/\u=jv n u l/\True) False)))) (by kernel_rfl) ?_;have e:n=0\/n=1\/n=2\/n=3:=by omega
 rcases e with rfl|rfl|rfl|rfl;.exact⟨rfl,rfl,trivial⟩
 .exact⟨h1,h2,rfl,rfl,trivial⟩
 .exact⟨h1,h2,rfl,rfl,trivial⟩
 exact⟨rfl,rfl,trivial⟩
def U2:eZ:=(U1.dQ 72 λa=>dS (D80 a)).dQ 57 λa=>dS (D83 a)
abbrev wkV(u l:List Int)(w:Int)(ls:List Int):TV:=.agg [.sl cS u .no,.sl cS l .no,bp w,.sl cS ls .no,.sl cS u .no,.sl cS l .no,.sl cS l.reverse .no,.sl cS u.reverse .no,.sl cS u.reverse .no,.sl cS l.reverse .no,.sl cS l .no,.sl cS u .no]
def D50:List TV->Dn
 |[.agg [.sl (.int .i64) u .no,.sl (.int .i64) l .no,.val (.int .i64 w),.sl (.int .i64) ls .no]]=>some ([u.length<=1000,l.length<=1000],.res (wkV u l w ls) [] [],[(4,.un 5)])
 |_=>none
theorem v50:VI U2 Try.f32 [none] D50:=by
 refine gT λa=>?_;unfold D50;split
 rotate_left
 .trivial
 rename_i u l w ls;intro hp;refine pE (A:=u.length<=1000/\l.length<=1000/\(0:Int)<=0/\(0:Int)<=3/\True/\dw (1:Int)/\u.length<=1000/\l.length<=1000/\(0:Int)<=1/\(1:Int)<=3/\True/\dw (2:Int)/\u.length<=1000/\l.length<=1000/\(0:Int)<=2/\(2:Int)<=3/\True/\dw (3:Int)/\u.length<=1000/\l.length<=1000/\(0:Int)<=3/\(3:Int)<=3/\True/\dw (4:Int)/\u=u/\l=l/\w=w/\ls=ls/\js (0:Int) u l=u/\jv (0:Int) u l=l/\js (1:Int) u l=l.reverse/\jv (1:Int) u l=u.reverse/\js (2:Int) u l=u.reverse/\jv (2:Int) u l=l.reverse/\js (3:Int) u l=l/\jv (3:Int) u l=u/\True) (by kernel_rfl) ?_;obtain⟨h1,h2,-⟩:=hp;simp only[dw]
 repeat' (first|exact h1|exact h2|omega|rfl|trivial|apply And.intro)
section
variable {bH:bR} (tk:yx bH) (tr:TY bH)
theorem gN{k:Nat}{T:eZ}(h:ko bH k T):∀m,ko bH (m+k) T
 |0=>by rwa [jk]
 |m+1=>by have:=lp (gN h m);rwa [Nat.add_right_comm]at this
theorem Nu{T:eZ}{k:Nat}(tr:TY bH)(hT:ko bH k T):ko bH k (T.dQ 83 adt):=OD hT λn a p s hs hp=>by
 unfold adt at hs;split at hs;.rename_i l;cases hs;intro bJ hd;obtain⟨d,_,rfl,h1,h2⟩:=aj hd;rw[aR h2];obtain⟨r,k1,k2,k3⟩:=tr.rev l d hp.1 h1;exact⟨r,_,by simp only[ym,kJ,k1,k2,if_true],k2,k3,rfl,rfl,trivial⟩
 cases hs
include tk tr
theorem acu:ko bH 1 U1:=wu tk (ic tk) (by decide) Try.func76 rfl afb (wu tk (Nu tr (ic tk)) (by decide) Try.func75 rfl ahn (wu tk (Nu tr (ic tk)) (by decide) Try.func74 rfl aho (wu tk (ic tk) (by decide) Try.func73 rfl v99 (wu tk (ic tk) (by decide) Try.func82 rfl v98 (wu tk (ic tk) (by decide) Try.func95 rfl v79 (lp (Nu tr (ic tk))))))))
theorem afc:ko bH 2 U2:=wu tk (acu tk tr) (by decide) Try.func57 rfl v83 (wu tk (acu tk tr) (by decide) Try.func72 rfl v80 (lp (acu tk tr)))
def W8:eZ:=((T8.dQ 95 λa=>dS (D79 a)).dQ 72 λa=>dS (D80 a)).dQ 32 λa=>dS (D50 a)
end
end Go.Tv
namespace Go.Tv
open Go Go.Di Go.Proofs
variable {P:Program}
def BG(kt:TT)(x:kt.den):List kt.den->Nat->Option (Nat×Value)
 |[],_=>none
 |y::l,i=>bif @decide (x=y) (Cy kt x y)then some (i,.bool true)else BG kt x l (i+1)
theorem Bc{kt:TT}{x:kt.den}:∀{l:List kt.den}{i:Nat},(iy kt x l=true/\∃j,BG kt x l i=some (i+j,.bool true)/\l[j]? =some x)\/(iy kt x l=false/\BG kt x l i=none)
 |[],i=>.inr ⟨rfl,rfl⟩
 |y::l,i=>by
  simp only[BG,iy,List.any_cons];cases h:@decide (x=y) (Cy kt x y)
  .rcases@Bc kt x l (i+1)with ⟨h1,j,h2,h3⟩|⟨h1,h2⟩;.refine .inl ⟨h1,j+1,?_,by simpa using h3⟩;rw[cond_false,h2,show i+1+j=i+(j+1)by omega]
   exact .inr ⟨h1,h2⟩
  have hx:x=y:=@of_decide_eq_true _ (Cy kt x y) h;exact .inl ⟨rfl,0,rfl,by rw[hx];rfl⟩
theorem Hw{key:TypeId}{kt:TT}(he:∀x y,cu P (Op.equal key (mM kt x) (mM kt y))=some (@decide (x=y) (Cy kt x y)))(x:kt.den):∀(l:List kt.den)(i:Nat),cu P (Instr.findAsking key (mM kt x) ((sE kt l).map Di.Om) i)=some (BG kt x l i)
 |[],i=>rfl
 |y::l,i=>by
  simp only[sE,bn,Instr.findAsking,cR,Di.Om,he x y,cn,BG];cases@decide (x=y) (Cy kt x y);.simp only[aI,if_false,cond_false];exact Hw he x l (i+1)
  rfl
theorem Vn{key:TypeId}{td:TypeDesc}{kt:TT}(hk:P.underlying key=some td)(hn:∀x y,Instr.sameNow td (mM kt x) (mM kt y)=none)(he:∀x y,cu P (Op.equal key (mM kt x) (mM kt y))=some (@decide (x=y) (Cy kt x y)))(x:kt.den)(l:List kt.den):cu P (Instr.findKey key (mM kt x) ((sE kt l).map Di.Om))=some (BG kt x l 0):=by
 simp only[Instr.findKey,cR,fV hk,cn];cases l with
 |nil=>rfl
 |cons y l=>simp only[sE,bn,Instr.findNow,Di.Om,hn x y];exact Hw he x (y::l) 0
theorem Xo{t key elem:TypeId}{kt:TT}{td:TypeDesc}(hu:P.underlying t=some (.map key elem))(hk:P.underlying key=some td)(hn:∀x y,Instr.sameNow td (mM kt x) (mM kt y)=none)(hz:cu P (zeroValue elem)=some (.bool false))(hc:∀b x,cu P (Instr.checkKey b 10000 key (mM kt x))=some ())(he:∀x y,cu P (Op.equal key (mM kt x) (mM kt y))=some (@decide (x=y) (Cy kt x y)))
  (hs:∀x,Instr.sameBits 10000 (mM kt x) (mM kt x)=true):wR P t kt where
 look:=λx l=>by
  simp only[J3,cR,fV hu,cn,hc,Vn hk hn he x l];rcases@Bc kt x l 0 with ⟨h1,j,h2,-⟩|⟨h1,h2⟩;.rw[h1,h2];rfl
  rw[h1,h2];simp only[cR,hz,cn];rfl
 find:=λx l=>by
  refine⟨BG kt x l 0,?_,?_⟩;.simp only[Kb,cR,fV hu,cn,hc,Vn hk hn he x l]
  rcases@Bc kt x l 0 with ⟨h1,j,h2,h3⟩|⟨h1,h2⟩
  .rw[h2];have e:(sE kt l)[0+j]? =some (mM kt x,.bool true):=by simp[sE,h3]
   simp only[My,e,hs,if_true,fW,h1,cond_true,aB];refine mA λi=>?_;rw[aH];split
   .rename_i e1;subst e1
    rw[e,if_pos (aA.1 e).1]
   rfl
  rw[h2];simp only[My,fW,h1,cond_false,aB];simp[sE]
end Go.Tv
namespace Go.Tv
open Go Go.Di Go.Proofs
abbrev gM:Type:=Bool×(Int×Int×Int×Unit)×Unit
def o1(na nb:Int)(x:gM):gM:=(!x.1,(iZ x.2.1.2.1 1,iZ x.2.1.1 1,x.2.1.2.2.1+nb-na,()),())
def o2(na nb:Int)(x:gM):gM:=(x.1,(iZ x.2.1.1 2,iZ x.2.1.2.1 2,na-nb-x.2.1.2.2.1,()),())
def o3(x:gM):gM:=(!x.1,(iZ x.2.1.2.1 3,iZ x.2.1.1 3,-x.2.1.2.2.1,()),())
def D56:List TV->Dn
 |[.agg [.val (.bool t),.val (.int .i64 u),.val (.int .i64 l),.val (.int .i64 s)],.val (.int .i64 na),.val (.int .i64 nb)]=>some ([-10000<=s,s<=10000,0<=na,na<=1000,0<=nb,nb<=1000],.res (.agg [iD (!t),bp (iZ l 1),bp (iZ u 1),bp (s+nb-na),iD t,bp (iZ u 2),bp (iZ l 2),bp (na-nb-s),iD (!t),bp (iZ l 3),bp (iZ u 3),bp (-s)]) [] [],[])
 |_=>none
def v56.q1 (p0:Bool)(p1 p2 p3 p4:Int)(p5:Prop):Prop:=p0=p0/\IntKind.i64.wrap (↑(BitVec.ofInt 64 p1^^^BitVec.ofInt 64 p2).toNat:Int)=iZ p1 p2/\IntKind.i64.wrap (↑(BitVec.ofInt 64 p3^^^BitVec.ofInt 64 p2).toNat:Int)=iZ p3 p2/\p4=p4/\p5
theorem v56:VI T0 Try.f56 [none] D56:=by
 refine gT λa=>?_;unfold D56;split
 rotate_left
 .trivial
 rename_i t u l s na nb;intro hp;refine pE (A:=dw (s+nb)/\dw (s+nb-na)/\dw (na-nb)/\dw (na-nb-s)/\dw (-s)/\v56.q1 (!t) l (1:Int) u (s+nb-na) (v56.q1 t u (2:Int) l (na-nb-s) (v56.q1 (!t) l (3:Int) u (-s) True))) (by kernel_rfl) ?_;unfold v56.q1;obtain⟨h1,h2,h3,h4,h5,h6,-⟩:=hp;simp only[dw,eq_self,true_and,and_true];exact⟨by omega,by omega,by omega,by omega,by omega,rfl,rfl,rfl,rfl,rfl,rfl⟩
def aD(ua la qa ub lb qb:List Int)(w:Int):List (Int×Int×Int×Unit):=qa.flatMap λx=>qb.flatMap λy=>(Bj (jv x ua la) (js y ub lb) w (ub.length+ua.length+1)).map λs=>(x,y,s,())
structure Zo (bH:bR):Prop where
 abv:∀(ua la qa ub lb qb:List Int)(wa wb:Int) d1 d2,Ok ua la wa qa->Ok ub lb wb qb->RT fA [] (wkV ua la wa qa) d1->RT fA [] (wkV ub lb wb qb) d2->∃r,bH 33 [d1,d2]=some r/\r.pure=true/\RT fA [] (.sl cz (aD ua la qa ub lb qb (wa+wb)) .no) r
def S60:List TV->Sp
 |[.agg [.sl (.int .i64) ua .no,.sl (.int .i64) la .no,.val (.int .i64 wa),.sl (.int .i64) qa .no,.sl (.int .i64) a0 .no,.sl (.int .i64) a1 .no,.sl (.int .i64) a2 .no,.sl (.int .i64) a3 .no,.sl (.int .i64) a4 .no,.sl (.int .i64) a5 .no,.sl (.int .i64) a6 .no,.sl (.int .i64) a7 .no],.agg [.sl (.int .i64) ub .no,.sl (.int .i64) lb .no,.val (.int .i64 wb),.sl (.int .i64) qb .no,.sl (.int .i64) b0 .no,.sl (.int .i64) b1 .no,.sl (.int .i64) b2 .no,.sl (.int .i64) b3 .no,.sl (.int .i64) b4 .no,.sl (.int .i64) b5 .no,.sl (.int .i64) b6 .no,.sl (.int .i64) b7 .no]]=>some ([Ok ua la wa qa,Ok ub lb wb qb,a0=ua,a1=la,a2=la.reverse,a3=ua.reverse,a4=ua.reverse,a5=la.reverse,a6=la,a7=ua,b0=ub,b1=lb,b2=lb.reverse,b3=ub.reverse,b4=ub.reverse,b5=lb.reverse,b6=lb,b7=ub],.res (.sl cz (aD ua la qa ub lb qb (wa+wb)) .no) [] [])
 |_=>none
theorem I9{α β:Type}{f:α->List β}{c:Nat}:∀{l:List α},(∀x∈l,(f x).length<=c)->(l.flatMap f).length<=l.length*c
 |[],_=>by simp
 |x::l,h=>by have h1:=h x (by simp);have h2:=I9 (f:=f) (l:=l) λy hy=>h y (by simp[hy]);rw[cT,bU,dN,jX];omega
theorem PX:∀(l:List Int)(c:Int),(∀x∈l,c<=x/\x<=3)->l.Pairwise (·<·)->(l.length:Int)<=max 0 (4-c)
 |[],c,_,_=>by simp;omega
 |x::l,c,h,hp=>by have h1:=h x (by simp);rw[List.pairwise_cons]at hp;have h2:=PX l (x+1) (λy hy=>⟨hp.1 y hy,(h y (by simp[hy])).2⟩) hp.2;rw[dN];omega
theorem q_len{u l q:List Int}{w:Int}(h:Ok u l w q):q.length<=4:=by have:=PX q 0 h.Mc h.asc;omega
theorem DW{ua la qa ub lb qb:List Int}{w wa wb:Int}(ha:Ok ua la wa qa)(hb:Ok ub lb wb qb):(aD ua la qa ub lb qb w).length<=272:=by have h1:=q_len ha;have h2:=q_len hb;have h3:=ha.n8;have h4:=hb.n8;unfold aD;refine bD (I9 (c:=68) λi _=>?_) (by omega);refine bD (I9 (c:=17) λj _=>?_) (by omega);rw[List.length_map,Bj];refine bD (vP _ _) ?_;simp only[List.length_map,List.length_range];omega
theorem ZZ{ua la qa ub lb qb:List Int}{w wa wb:Int}(ha:Ok ua la wa qa)(hb:Ok ub lb wb qb){x:Int×Int×Int×Unit}(h:x∈aD ua la qa ub lb qb w):-10000<=x.2.2.1/\x.2.2.1<=10000:=by have h3:=ha.n8;have h4:=hb.n8;simp only[aD,qH,dM,Bj,List.mem_filter,iG]at h;obtain⟨a,-,b,-,s,⟨⟨k,hk,rfl⟩,-⟩,rfl⟩:=h;have:=(aaD (n:=b) hb.len).1;simp only;omega
theorem Pa{ua la qa ub lb qb:List Int}{w wa wb:Int}(ha:Ok ua la wa qa)(hb:Ok ub lb wb qb){i:Nat}{d:Int×Int×Int×Unit}(h:i<(aD ua la qa ub lb qb w).length):-10000<=((aD ua la qa ub lb qb w).getD i d).2.2.1/\((aD ua la qa ub lb qb w).getD i d).2.2.1<=10000:=by rw[aP,bP h,kU];exact ZZ ha hb (sU h)
def Tw(x y:gM):Bool:=(x.1==y.1)&&(((x.2.1.1==y.2.1.1)&&((x.2.1.2.1==y.2.1.2.1)&&((x.2.1.2.2.1==y.2.1.2.2.1)&&true)))&&true)
def ox(na nb:Int)(q:List gM×Int)(w:gM):List gM×Int:=
 (fW cv w q.1,bif iy cv (o1 na nb w) (fW cv w q.1)then q.2 else bif (!Tw (o2 na nb w) w&&iy cv (o2 na nb w) (fW cv w q.1))then q.2 else bif iy cv (o3 w) (fW cv w q.1)then q.2 else q.2+1)
def cN(na nb:Int)(t:Bool)(q:List gM×Int)(l:List (Int×Int×Int×Unit)):List gM×Int:=l.foldl (λq s=>ox na nb q (t,s,())) q
def Dk(ua la qa ub lb qb:List Int)(wa wb:Int):Int:=(cN ub.length ua.length true (cN ua.length ub.length false ([],0) (aD ua la qa ub lb qb (wa+wb))) (aD ub lb qb ua la qa (wb+wa))).2
section
variable {na nb:Int} {t:Bool} {q:List gM×Int} {l:List (Int×Int×Int×Unit)} {i:Nat}
theorem X1(d:Int×Int×Int×Unit)(h:i<l.length):cN na nb t q (l.take (i+1))=ox na nb (cN na nb t q (l.take i)) (t,l.getD i d,()):=by rw[cN,List.take_succ_eq_append_getElem h,jY,aP,bP h,kU];rfl
theorem LF(h:¬i<l.length)(h':i<=l.length):cN na nb t q (l.take i)=cN na nb t q l:=by rw[show i=l.length by omega,iH]
theorem ZT(w:gM):q.2<=(ox na nb q w).2/\(ox na nb q w).2<=q.2+1:=by unfold ox;cases iy cv (o1 na nb w) (fW cv w q.1)<;>cases(!Tw (o2 na nb w) w&&iy cv (o2 na nb w) (fW cv w q.1))<;>cases iy cv (o3 w) (fW cv w q.1)<;>simp<;>omega
theorem Nt:∀(l:List (Int×Int×Int×Unit))(q:List gM×Int),q.2<=(cN na nb t q l).2/\(cN na nb t q l).2<=q.2+l.length
 |[],q=>by simp[cN]
 |s::l,q=>by have h1:=ZT (na:=na) (nb:=nb) (q:=q) (t,s,());have h2:=Nt l (ox na nb q (t,s,()));have e:cN na nb t q (s::l)=cN na nb t (ox na nb q (t,s,())) l:=rfl;rw[e,dN];omega
variable {w:gM}
theorem st1(h:iy cv (o1 na nb w) (fW cv w q.1)=true):ox na nb q w=(fW cv w q.1,q.2):=by simp only[ox,h,cond_true]
theorem st2(h:iy cv (o1 na nb w) (fW cv w q.1)=false)(h2:(!Tw (o2 na nb w) w)=true)(h3:iy cv (o2 na nb w) (fW cv w q.1)=true):ox na nb q w=(fW cv w q.1,q.2):=by simp only[ox,h,h2,h3,fT,cond_true,cond_false]
theorem st3(h:iy cv (o1 na nb w) (fW cv w q.1)=false)(h2:(!Tw (o2 na nb w) w)=false\/iy cv (o2 na nb w) (fW cv w q.1)=false)(h3:iy cv (o3 w) (fW cv w q.1)=true):ox na nb q w=(fW cv w q.1,q.2):=by rcases h2 with h2|h2<;>simp only[ox,h,h2,h3,oU,Bool.false_and,cond_true,cond_false]
theorem st4(h:iy cv (o1 na nb w) (fW cv w q.1)=false)(h2:(!Tw (o2 na nb w) w)=false\/iy cv (o2 na nb w) (fW cv w q.1)=false)(h3:iy cv (o3 w) (fW cv w q.1)=false):ox na nb q w=(fW cv w q.1,q.2+1):=by rcases h2 with h2|h2<;>simp only[ox,h,h2,h3,oU,Bool.false_and,cond_false]
end
def Dt(na nb:Int)(t:Bool)(q:List gM×Int)(l:List (Int×Int×Int×Unit))(i:Nat)(d:Int×Int×Int×Unit)(v:Int):Prop:=
 dw ((i:Int)+1)/\∃j:Nat,v=(cN na nb t q (l.take j)).2/\(i:Int)+1=(j:Int)/\fW cv (t,l.getD i d,()) (cN na nb t q (l.take i)).1=(cN na nb t q (l.take j)).1/\j<=l.length/\l.length-j<l.length-i
theorem vF{na nb:Int}{t:Bool}{q:List gM×Int}{l:List (Int×Int×Int×Unit)}{i:Nat}{d:Int×Int×Int×Unit}{v:Int}(hi:i<l.length)(hl:l.length<=272)(e:ox na nb (cN na nb t q (l.take i)) (t,l.getD i d,())=(fW cv (t,l.getD i d,()) (cN na nb t q (l.take i)).1,v)):Dt na nb t q l i d v:=by have e2:=(X1 d hi).trans e;exact⟨by simp only[dw];omega,i+1,by rw[e2],by omega,by rw[e2],by omega,by omega⟩
theorem KL{na nb:Int}{t:Bool}{q:List gM×Int}{l:List (Int×Int×Int×Unit)}{i:Nat}{d:Int×Int×Int×Unit}(hi:i<l.length)(hl:l.length<=272)(h0:0<=q.2)(h1:q.2<=272):
  (iy cv (o1 na nb (t,l.getD i d,())) (fW cv (t,l.getD i d,()) (cN na nb t q (l.take i)).1)=true->Dt na nb t q l i d (cN na nb t q (l.take i)).2)/\
  (iy cv (o1 na nb (t,l.getD i d,())) (fW cv (t,l.getD i d,()) (cN na nb t q (l.take i)).1)=false->
   ((!Tw (o2 na nb (t,l.getD i d,())) (t,l.getD i d,()))=true->(iy cv (o2 na nb (t,l.getD i d,())) (fW cv (t,l.getD i d,()) (cN na nb t q (l.take i)).1)=true->Dt na nb t q l i d (cN na nb t q (l.take i)).2)/\(iy cv (o2 na nb (t,l.getD i d,())) (fW cv (t,l.getD i d,()) (cN na nb t q (l.take i)).1)=false->
    (iy cv (o3 (t,l.getD i d,())) (fW cv (t,l.getD i d,()) (cN na nb t q (l.take i)).1)=true->Dt na nb t q l i d (cN na nb t q (l.take i)).2)/\(iy cv (o3 (t,l.getD i d,())) (fW cv (t,l.getD i d,()) (cN na nb t q (l.take i)).1)=false->dw ((cN na nb t q (l.take i)).2+1)/\Dt na nb t q l i d ((cN na nb t q (l.take i)).2+1))))/\
   ((!Tw (o2 na nb (t,l.getD i d,())) (t,l.getD i d,()))=false->
    (iy cv (o3 (t,l.getD i d,())) (fW cv (t,l.getD i d,()) (cN na nb t q (l.take i)).1)=true->Dt na nb t q l i d (cN na nb t q (l.take i)).2)/\(iy cv (o3 (t,l.getD i d,())) (fW cv (t,l.getD i d,()) (cN na nb t q (l.take i)).1)=false->dw ((cN na nb t q (l.take i)).2+1)/\Dt na nb t q l i d ((cN na nb t q (l.take i)).2+1)))):=by
 have b:=Nt (na:=na) (nb:=nb) (t:=t) (l.take i) q;have b2:(l.take i).length<=272:=by rw[List.length_take];omega
 have r:dw ((cN na nb t q (l.take i)).2+1):=by simp only[dw];omega
 exact⟨λc1=>vF hi hl (st1 c1),λc1=>⟨λc2=>⟨λc3=>vF hi hl (st2 c1 c2 c3),λc3=>⟨λc4=>vF hi hl (st3 c1 (.inr c3) c4),λc4=>⟨r,vF hi hl (st4 c1 (.inr c3) c4)⟩⟩⟩,λc2=>⟨λc4=>vF hi hl (st3 c1 (.inl c2) c4),λc4=>⟨r,vF hi hl (st4 c1 (.inl c2) c4)⟩⟩⟩⟩
theorem R7:wR Tp 107 cv:=by
 refine Xo (key:=110) (elem:=4) (td:=(Tp.underlying 110).getD default) (by kernel_rfl) (by kernel_rfl) (λx y=>by kernel_rfl) (by kernel_rfl) (λb x=>by cases b<;>kernel_rfl) (λx y=>?_) (λx=>?_)
 .have e:eqV Tp 2 110 (mM cv x) (mM cv y)=some (Tw x y):=by kernel_rfl
  have e2:=Nr (d:=10000) (by omega) e;refine e2.trans (congrArg some ?_);rw[Bool.eq_iff_iff,@decide_eq_true_iff _ (Cy cv x y)];obtain⟨t,⟨u,l,s,c⟩,c'⟩:=x;obtain⟨t2,⟨u2,l2,s2,c2⟩,c3⟩:=y;change Tw (t,(u,l,s,()),()) (t2,(u2,l2,s2,()),())=true↔((t,(u,l,s,()),()):gM)=(t2,(u2,l2,s2,()),());simp only[Tw,aC,dX,and_true,az]
 have e:Instr.sameBits 10000 (mM cv x) (mM cv x)=((x.1==x.1)&&((IntKind.i64==IntKind.i64&&x.2.1.1==x.2.1.1)&&((IntKind.i64==IntKind.i64&&x.2.1.2.1==x.2.1.2.1)&&((IntKind.i64==IntKind.i64&&x.2.1.2.2.1==x.2.1.2.2.1)&&true)))):=by kernel_rfl
 rw[e];simp
def F1:eZ:=(T0.dQ 56 λa=>dS (D56 a)).dQ 33 S60
def D31:List TV->Dn
 |[.agg [.sl (.int .i64) ua .no,.sl (.int .i64) la .no,.val (.int .i64 wa),.sl (.int .i64) qa .no,.sl (.int .i64) a0 .no,.sl (.int .i64) a1 .no,.sl (.int .i64) a2 .no,.sl (.int .i64) a3 .no,.sl (.int .i64) a4 .no,.sl (.int .i64) a5 .no,.sl (.int .i64) a6 .no,.sl (.int .i64) a7 .no],.agg [.sl (.int .i64) ub .no,.sl (.int .i64) lb .no,.val (.int .i64 wb),.sl (.int .i64) qb .no,.sl (.int .i64) b0 .no,.sl (.int .i64) b1 .no,.sl (.int .i64) b2 .no,.sl (.int .i64) b3 .no,.sl (.int .i64) b4 .no,.sl (.int .i64) b5 .no,.sl (.int .i64) b6 .no,.sl (.int .i64) b7 .no]]=>some ([Ok ua la wa qa,Ok ub lb wb qb,a0=ua,a1=la,a2=la.reverse,a3=ua.reverse,a4=ua.reverse,a5=la.reverse,a6=la,a7=ua,b0=ub,b1=lb,b2=lb.reverse,b3=ub.reverse,b4=ub.reverse,b5=lb.reverse,b6=lb,b7=ub],.res (bp (Dk ua la qa ub lb qb wa wb)) [] [],
  [(5,.un 3),(24,.un 4),(15,.dep λte _=>match te.getD 8 .unk with
   |.val (.bool true)=>.ex Nat λi=>.st {sl:=[(32,bp i),(6,bp (cN ub.length ua.length true (cN ua.length ub.length false ([],0) (aD ua la qa ub lb qb (wa+wb))) ((aD ub lb qb ua la qa (wb+wa)).take i)).2)],mp:=[(2,⟨cv,(cN ub.length ua.length true (cN ua.length ub.length false ([],0) (aD ua la qa ub lb qb (wa+wb))) ((aD ub lb qb ua la qa (wb+wa)).take i)).1⟩)],cO:=[i<=(aD ub lb qb ua la qa (wb+wa)).length],m:=(aD ub lb qb ua la qa (wb+wa)).length-i}
   |_=>.ex Nat λi=>.st {sl:=[(32,bp i),(6,bp (cN ua.length ub.length false ([],0) ((aD ua la qa ub lb qb (wa+wb)).take i)).2)],mp:=[(2,⟨cv,(cN ua.length ub.length false ([],0) ((aD ua la qa ub lb qb (wa+wb)).take i)).1⟩)],cO:=[i<=(aD ua la qa ub lb qb (wa+wb)).length],m:=(aD ua la qa ub lb qb (wa+wb)).length-i})])
 |_=>none
def v31.q1 (p0 p1:List cS.den)(p2:Int)(p3:List cS.den)(p4:Prop):Prop:=p0=p0/\p1=p1/\p2=p2/\p3=p3/\p0=p0/\p1=p1/\p1.reverse=p1.reverse/\p0.reverse=p0.reverse/\p0.reverse=p0.reverse/\p1.reverse=p1.reverse/\p1=p1/\p0=p0/\p4
def v31.q2 (p0 p1:List cS.den)(p2:Int)(p3 p4 p5:List cS.den)(p6:Int)(p7:List cS.den)(p8:Prop):Prop:=v31.q1 p0 p1 p2 p3 (v31.q1 p4 p5 p6 p7 p8)
def v31.q3 (p0:Nat)(p1 p2 p3 p4 p5 p6:List cS.den)(p7 p8 p9:Int):Prop:=dw ((↑p0:Int)+1)/\∃(a:Nat),(0:Int)=0/\p9=(cN (↑p1.length:Int) (↑p2.length:Int) true (cN (↑p2.length:Int) (↑p1.length:Int) false ([],(0:Int)) (aD p2 p3 p4 p1 p5 p6 (p7+p8))) (List.take a (aD p1 p5 p6 p2 p3 p4 (p8+p7)))).2/\true=true/\[false,true]=[false,true]/\(2:Int)=2/\(1:Int)=1/\true=true/\[false,true]=[false,true]/\1=1/\0=0/\true=true/\v31.q2 p2 p3 p7 p4 p1 p5 p8 p6 (true=true/\v31.q2 p1 p5 p8 p6 p2 p3 p7 p4 (v31.q2 p1 p5 p8 p6 p2 p3 p7 p4 (aD p1 p5 p6 p2 p3 p4 (p8+p7)=aD p1 p5 p6 p2 p3 p4 (p8+p7)/\(↑(aD p1 p5 p6 p2 p3 p4 (p8+p7)).length:Int)=(↑(aD p1 p5 p6 p2 p3 p4 (p8+p7)).length:Int)/\(↑p0:Int)+1=(↑a:Int)/\(1:Int)=1/\v31.q2 p2 p3 p7 p4 p1 p5 p8 p6 (fW cv (true,(((aD p1 p5 p6 p2 p3 p4 (p8+p7)).getD p0 (0,0,0,())).1,((aD p1 p5 p6 p2 p3 p4 (p8+p7)).getD p0 (0,0,0,())).2.1,((aD p1 p5 p6 p2 p3 p4 (p8+p7)).getD p0 (0,0,0,())).2.2.1,()),()) (cN (↑p1.length:Int) (↑p2.length:Int) true (cN (↑p2.length:Int) (↑p1.length:Int) false ([],(0:Int)) (aD p2 p3 p4 p1 p5 p6 (p7+p8))) (List.take p0 (aD p1 p5 p6 p2 p3 p4 (p8+p7)))).1=(cN (↑p1.length:Int) (↑p2.length:Int) true (cN (↑p2.length:Int) (↑p1.length:Int) false ([],(0:Int)) (aD p2 p3 p4 p1 p5 p6 (p7+p8))) (List.take a (aD p1 p5 p6 p2 p3 p4 (p8+p7)))).1/\v31.q2 p2 p3 p7 p4 p1 p5 p8 p6 (v31.q2 p1 p5 p8 p6 p2 p3 p7 p4 (a<=(aD p1 p5 p6 p2 p3 p4 (p8+p7)).length/\((aD p1 p5 p6 p2 p3 p4 (p8+p7)).length-a)<((aD p1 p5 p6 p2 p3 p4 (p8+p7)).length-p0)))))))
def v31.q4 (p0:Nat)(p1 p2 p3 p4 p5 p6:List cS.den)(p7 p8 p9:Int):Prop:=dw ((↑p0:Int)+1)/\∃(a:Nat),(0:Int)=0/\p9=(cN (↑p1.length:Int) (↑p2.length:Int) false ([],(0:Int)) (List.take a (aD p1 p3 p4 p2 p5 p6 (p7+p8)))).2/\false=false/\[false,true]=[false,true]/\(2:Int)=2/\(0:Int)=0/\true=true/\[false,true]=[false,true]/\0=0/\0=0/\false=false/\v31.q2 p1 p3 p7 p4 p2 p5 p8 p6 (false=false/\v31.q2 p1 p3 p7 p4 p2 p5 p8 p6 (aD p1 p3 p4 p2 p5 p6 (p7+p8)=aD p1 p3 p4 p2 p5 p6 (p7+p8)/\(↑(aD p1 p3 p4 p2 p5 p6 (p7+p8)).length:Int)=(↑(aD p1 p3 p4 p2 p5 p6 (p7+p8)).length:Int)/\(↑p0:Int)+1=(↑a:Int)/\v31.q2 p1 p3 p7 p4 p2 p5 p8 p6 (fW cv (false,(((aD p1 p3 p4 p2 p5 p6 (p7+p8)).getD p0 (0,0,0,())).1,((aD p1 p3 p4 p2 p5 p6 (p7+p8)).getD p0 (0,0,0,())).2.1,((aD p1 p3 p4 p2 p5 p6 (p7+p8)).getD p0 (0,0,0,())).2.2.1,()),()) (cN (↑p1.length:Int) (↑p2.length:Int) false ([],(0:Int)) (List.take p0 (aD p1 p3 p4 p2 p5 p6 (p7+p8)))).1=(cN (↑p1.length:Int) (↑p2.length:Int) false ([],(0:Int)) (List.take a (aD p1 p3 p4 p2 p5 p6 (p7+p8)))).1/\v31.q2 p1 p3 p7 p4 p2 p5 p8 p6 (a<=(aD p1 p3 p4 p2 p5 p6 (p7+p8)).length/\((aD p1 p3 p4 p2 p5 p6 (p7+p8)).length-a)<((aD p1 p3 p4 p2 p5 p6 (p7+p8)).length-p0)))))
def v31.q5 (p0 p1 p2 p3 p4 p5:List cS.den)(p6 p7:Int)(p8:Nat):Prop:=dw (2:Int)/\wR Tp 107 cv/\aS (iy cv (!true,(iZ ((aD p0 p1 p2 p3 p4 p5 (p6+p7)).getD p8 (0,0,0,())).2.1 (3:Int),iZ ((aD p0 p1 p2 p3 p4 p5 (p6+p7)).getD p8 (0,0,0,())).1 (3:Int),-((aD p0 p1 p2 p3 p4 p5 (p6+p7)).getD p8 (0,0,0,())).2.2.1,()),()) (fW cv (true,(((aD p0 p1 p2 p3 p4 p5 (p6+p7)).getD p8 (0,0,0,())).1,((aD p0 p1 p2 p3 p4 p5 (p6+p7)).getD p8 (0,0,0,())).2.1,((aD p0 p1 p2 p3 p4 p5 (p6+p7)).getD p8 (0,0,0,())).2.2.1,()),()) (cN (↑p0.length:Int) (↑p3.length:Int) true (cN (↑p3.length:Int) (↑p0.length:Int) false ([],(0:Int)) (aD p3 p4 p5 p0 p1 p2 (p7+p6))) (List.take p8 (aD p0 p1 p2 p3 p4 p5 (p6+p7)))).1)) (v31.q3 p8 p0 p3 p4 p5 p1 p2 p7 p6 (cN (↑p0.length:Int) (↑p3.length:Int) true (cN (↑p3.length:Int) (↑p0.length:Int) false ([],(0:Int)) (aD p3 p4 p5 p0 p1 p2 (p7+p6))) (List.take p8 (aD p0 p1 p2 p3 p4 p5 (p6+p7)))).2) (dw (3:Int)/\dw ((cN (↑p0.length:Int) (↑p3.length:Int) true (cN (↑p3.length:Int) (↑p0.length:Int) false ([],(0:Int)) (aD p3 p4 p5 p0 p1 p2 (p7+p6))) (List.take p8 (aD p0 p1 p2 p3 p4 p5 (p6+p7)))).2+1)/\v31.q3 p8 p0 p3 p4 p5 p1 p2 p7 p6 ((cN (↑p0.length:Int) (↑p3.length:Int) true (cN (↑p3.length:Int) (↑p0.length:Int) false ([],(0:Int)) (aD p3 p4 p5 p0 p1 p2 (p7+p6))) (List.take p8 (aD p0 p1 p2 p3 p4 p5 (p6+p7)))).2+1))
def v31.q6 (p0 p1 p2 p3 p4 p5:List cS.den)(p6 p7:Int)(p8:Nat):Prop:=dw (2:Int)/\wR Tp 107 cv/\aS (iy cv (!false,(iZ ((aD p0 p1 p2 p3 p4 p5 (p6+p7)).getD p8 (0,0,0,())).2.1 (3:Int),iZ ((aD p0 p1 p2 p3 p4 p5 (p6+p7)).getD p8 (0,0,0,())).1 (3:Int),-((aD p0 p1 p2 p3 p4 p5 (p6+p7)).getD p8 (0,0,0,())).2.2.1,()),()) (fW cv (false,(((aD p0 p1 p2 p3 p4 p5 (p6+p7)).getD p8 (0,0,0,())).1,((aD p0 p1 p2 p3 p4 p5 (p6+p7)).getD p8 (0,0,0,())).2.1,((aD p0 p1 p2 p3 p4 p5 (p6+p7)).getD p8 (0,0,0,())).2.2.1,()),()) (cN (↑p0.length:Int) (↑p3.length:Int) false ([],(0:Int)) (List.take p8 (aD p0 p1 p2 p3 p4 p5 (p6+p7)))).1)) (v31.q4 p8 p0 p3 p1 p2 p4 p5 p6 p7 (cN (↑p0.length:Int) (↑p3.length:Int) false ([],(0:Int)) (List.take p8 (aD p0 p1 p2 p3 p4 p5 (p6+p7)))).2) (dw (3:Int)/\dw ((cN (↑p0.length:Int) (↑p3.length:Int) false ([],(0:Int)) (List.take p8 (aD p0 p1 p2 p3 p4 p5 (p6+p7)))).2+1)/\v31.q4 p8 p0 p3 p1 p2 p4 p5 p6 p7 ((cN (↑p0.length:Int) (↑p3.length:Int) false ([],(0:Int)) (List.take p8 (aD p0 p1 p2 p3 p4 p5 (p6+p7)))).2+1))
def v31.q7 (p0 p1:List cS.den)(p2:Prop):Prop:=p0=p0/\p1=p1/\p1.reverse=p1.reverse/\p0.reverse=p0.reverse/\p0.reverse=p0.reverse/\p1.reverse=p1.reverse/\p1=p1/\p0=p0/\p2
def v31.q8 (p0:Nat)(p1 p2 p3 p4 p5 p6:List cS.den)(p7 p8:Int)(p9:Prop):Prop:=(0<=(↑p0:Int)/\(↑p0:Int)<(↑(aD p1 p2 p3 p4 p5 p6 (p7+p8)).length:Int))/\wR Tp 107 cv/\(-10000:Int)<=((aD p1 p2 p3 p4 p5 p6 (p7+p8)).getD p0 (0,0,0,())).2.2.1/\((aD p1 p2 p3 p4 p5 p6 (p7+p8)).getD p0 (0,0,0,())).2.2.1<=10000/\0<=(↑p1.length:Int)/\(↑p1.length:Int)<=1000/\0<=(↑p4.length:Int)/\(↑p4.length:Int)<=1000/\wR Tp 107 cv/\p9
theorem v31:VI F1 Try.f31 [none,none] D31:=by
 refine gT λa=>?_;unfold D31;split
 rotate_left
 .trivial
 rename_i ua la wa qa a0 a1 a2 a3 a4 a5 a6 a7 ub lb wb qb b0 b1 b2 b3 b4 b5 b6 b7;intro hp;obtain⟨h1,h2,rfl,rfl,rfl,rfl,rfl,rfl,rfl,rfl,rfl,rfl,rfl,rfl,rfl,rfl,rfl,rfl,-⟩:=hp;refine pE (A:=True/\((0:Int)<=0/\(0:Int)<2)/\Ok a7 a6 wa qa/\Ok b7 b6 wb qb/\v31.q7 a7 a6 (v31.q7 b7 b6 ((∃(a:Nat),0=(cN (↑a7.length:Int) (↑b7.length:Int) false ([],(0:Int)) (List.take a (aD a7 a6 qa b7 b6 qb (wa+wb)))).2/\0=(↑a:Int)/\[]=(cN (↑a7.length:Int) (↑b7.length:Int) false ([],(0:Int)) (List.take a (aD a7 a6 qa b7 b6 qb (wa+wb)))).1/\a<=(aD a7 a6 qa b7 b6 qb (wa+wb)).length/\((aD a7 a6 qa b7 b6 qb (wa+wb)).length-a)<1000000)/\∀(a:Nat),a<=(aD a7 a6 qa b7 b6 qb (wa+wb)).length->aS (decide ((↑a:Int)<(↑(aD a7 a6 qa b7 b6 qb (wa+wb)).length:Int))) (v31.q8 a a7 a6 qa b7 b6 qb wa wb (aS (iy cv (!false,(iZ ((aD a7 a6 qa b7 b6 qb (wa+wb)).getD a (0,0,0,())).2.1 (1:Int),iZ ((aD a7 a6 qa b7 b6 qb (wa+wb)).getD a (0,0,0,())).1 (1:Int),((aD a7 a6 qa b7 b6 qb (wa+wb)).getD a (0,0,0,())).2.2.1+(↑b7.length:Int)-(↑a7.length:Int),()),()) (fW cv (false,(((aD a7 a6 qa b7 b6 qb (wa+wb)).getD a (0,0,0,())).1,((aD a7 a6 qa b7 b6 qb (wa+wb)).getD a (0,0,0,())).2.1,((aD a7 a6 qa b7 b6 qb (wa+wb)).getD a (0,0,0,())).2.2.1,()),()) (cN (↑a7.length:Int) (↑b7.length:Int) false ([],(0:Int)) (List.take a (aD a7 a6 qa b7 b6 qb (wa+wb)))).1)) (v31.q4 a a7 b7 a6 qa b6 qb wa wb (cN (↑a7.length:Int) (↑b7.length:Int) false ([],(0:Int)) (List.take a (aD a7 a6 qa b7 b6 qb (wa+wb)))).2) (dw (1:Int)/\aS (!(false==false&&(iZ ((aD a7 a6 qa b7 b6 qb (wa+wb)).getD a (0,0,0,())).1 (2:Int)==((aD a7 a6 qa b7 b6 qb (wa+wb)).getD a (0,0,0,())).1&&(iZ ((aD a7 a6 qa b7 b6 qb (wa+wb)).getD a (0,0,0,())).2.1 (2:Int)==((aD a7 a6 qa b7 b6 qb (wa+wb)).getD a (0,0,0,())).2.1&&((↑a7.length:Int)-(↑b7.length:Int)-((aD a7 a6 qa b7 b6 qb (wa+wb)).getD a (0,0,0,())).2.2.1==((aD a7 a6 qa b7 b6 qb (wa+wb)).getD a (0,0,0,())).2.2.1&&true))&&true))) (wR Tp 107 cv/\aS (iy cv (false,(iZ ((aD a7 a6 qa b7 b6 qb (wa+wb)).getD a (0,0,0,())).1 (2:Int),iZ ((aD a7 a6 qa b7 b6 qb (wa+wb)).getD a (0,0,0,())).2.1 (2:Int),(↑a7.length:Int)-(↑b7.length:Int)-((aD a7 a6 qa b7 b6 qb (wa+wb)).getD a (0,0,0,())).2.2.1,()),()) (fW cv (false,(((aD a7 a6 qa b7 b6 qb (wa+wb)).getD a (0,0,0,())).1,((aD a7 a6 qa b7 b6 qb (wa+wb)).getD a (0,0,0,())).2.1,((aD a7 a6 qa b7 b6 qb (wa+wb)).getD a (0,0,0,())).2.2.1,()),()) (cN (↑a7.length:Int) (↑b7.length:Int) false ([],(0:Int)) (List.take a (aD a7 a6 qa b7 b6 qb (wa+wb)))).1)) (v31.q4 a a7 b7 a6 qa b6 qb wa wb (cN (↑a7.length:Int) (↑b7.length:Int) false ([],(0:Int)) (List.take a (aD a7 a6 qa b7 b6 qb (wa+wb)))).2) (v31.q6 a7 a6 qa b7 b6 qb wa wb a)) (v31.q6 a7 a6 qa b7 b6 qb wa wb a)))) (dw (1:Int)/\((0:Int)<=1/\(1:Int)<2)/\Ok b7 b6 wb qb/\Ok a7 a6 wa qa/\v31.q7 b7 b6 (v31.q7 a7 a6 ((∃(x:Nat),(cN (↑a7.length:Int) (↑b7.length:Int) false ([],(0:Int)) (List.take a (aD a7 a6 qa b7 b6 qb (wa+wb)))).2=(cN (↑b7.length:Int) (↑a7.length:Int) true (cN (↑a7.length:Int) (↑b7.length:Int) false ([],(0:Int)) (aD a7 a6 qa b7 b6 qb (wa+wb))) (List.take x (aD b7 b6 qb a7 a6 qa (wb+wa)))).2/\0=(↑x:Int)/\(cN (↑a7.length:Int) (↑b7.length:Int) false ([],(0:Int)) (List.take a (aD a7 a6 qa b7 b6 qb (wa+wb)))).1=(cN (↑b7.length:Int) (↑a7.length:Int) true (cN (↑a7.length:Int) (↑b7.length:Int) false ([],(0:Int)) (aD a7 a6 qa b7 b6 qb (wa+wb))) (List.take x (aD b7 b6 qb a7 a6 qa (wb+wa)))).1/\x<=(aD b7 b6 qb a7 a6 qa (wb+wa)).length/\((aD b7 b6 qb a7 a6 qa (wb+wa)).length-x)<1000000)/\∀(a:Nat),a<=(aD b7 b6 qb a7 a6 qa (wb+wa)).length->aS (decide ((↑a:Int)<(↑(aD b7 b6 qb a7 a6 qa (wb+wa)).length:Int))) (v31.q8 a b7 b6 qb a7 a6 qa wb wa (aS (iy cv (!true,(iZ ((aD b7 b6 qb a7 a6 qa (wb+wa)).getD a (0,0,0,())).2.1 (1:Int),iZ ((aD b7 b6 qb a7 a6 qa (wb+wa)).getD a (0,0,0,())).1 (1:Int),((aD b7 b6 qb a7 a6 qa (wb+wa)).getD a (0,0,0,())).2.2.1+(↑a7.length:Int)-(↑b7.length:Int),()),()) (fW cv (true,(((aD b7 b6 qb a7 a6 qa (wb+wa)).getD a (0,0,0,())).1,((aD b7 b6 qb a7 a6 qa (wb+wa)).getD a (0,0,0,())).2.1,((aD b7 b6 qb a7 a6 qa (wb+wa)).getD a (0,0,0,())).2.2.1,()),()) (cN (↑b7.length:Int) (↑a7.length:Int) true (cN (↑a7.length:Int) (↑b7.length:Int) false ([],(0:Int)) (aD a7 a6 qa b7 b6 qb (wa+wb))) (List.take a (aD b7 b6 qb a7 a6 qa (wb+wa)))).1)) (v31.q3 a b7 a7 a6 qa b6 qb wa wb (cN (↑b7.length:Int) (↑a7.length:Int) true (cN (↑a7.length:Int) (↑b7.length:Int) false ([],(0:Int)) (aD a7 a6 qa b7 b6 qb (wa+wb))) (List.take a (aD b7 b6 qb a7 a6 qa (wb+wa)))).2) (dw (1:Int)/\aS (!(true==true&&(iZ ((aD b7 b6 qb a7 a6 qa (wb+wa)).getD a (0,0,0,())).1 (2:Int)==((aD b7 b6 qb a7 a6 qa (wb+wa)).getD a (0,0,0,())).1&&(iZ ((aD b7 b6 qb a7 a6 qa (wb+wa)).getD a (0,0,0,())).2.1 (2:Int)==((aD b7 b6 qb a7 a6 qa (wb+wa)).getD a (0,0,0,())).2.1&&((↑b7.length:Int)-(↑a7.length:Int)-((aD b7 b6 qb a7 a6 qa (wb+wa)).getD a (0,0,0,())).2.2.1==((aD b7 b6 qb a7 a6 qa (wb+wa)).getD a (0,0,0,())).2.2.1&&true))&&true))) (wR Tp 107 cv/\aS (iy cv (true,(iZ ((aD b7 b6 qb a7 a6 qa (wb+wa)).getD a (0,0,0,())).1 (2:Int),iZ ((aD b7 b6 qb a7 a6 qa (wb+wa)).getD a (0,0,0,())).2.1 (2:Int),(↑b7.length:Int)-(↑a7.length:Int)-((aD b7 b6 qb a7 a6 qa (wb+wa)).getD a (0,0,0,())).2.2.1,()),()) (fW cv (true,(((aD b7 b6 qb a7 a6 qa (wb+wa)).getD a (0,0,0,())).1,((aD b7 b6 qb a7 a6 qa (wb+wa)).getD a (0,0,0,())).2.1,((aD b7 b6 qb a7 a6 qa (wb+wa)).getD a (0,0,0,())).2.2.1,()),()) (cN (↑b7.length:Int) (↑a7.length:Int) true (cN (↑a7.length:Int) (↑b7.length:Int) false ([],(0:Int)) (aD a7 a6 qa b7 b6 qb (wa+wb))) (List.take a (aD b7 b6 qb a7 a6 qa (wb+wa)))).1)) (v31.q3 a b7 a7 a6 qa b6 qb wa wb (cN (↑b7.length:Int) (↑a7.length:Int) true (cN (↑a7.length:Int) (↑b7.length:Int) false ([],(0:Int)) (aD a7 a6 qa b7 b6 qb (wa+wb))) (List.take a (aD b7 b6 qb a7 a6 qa (wb+wa)))).2) (v31.q5 b7 b6 qb a7 a6 qa wb wa a)) (v31.q5 b7 b6 qb a7 a6 qa wb wa a)))) (dw (2:Int)/\(cN (↑b7.length:Int) (↑a7.length:Int) true (cN (↑a7.length:Int) (↑b7.length:Int) false ([],(0:Int)) (aD a7 a6 qa b7 b6 qb (wa+wb))) (List.take a (aD b7 b6 qb a7 a6 qa (wb+wa)))).2=Dk a7 a6 qa b7 b6 qb wa wb/\True))))))) (by kernel_rfl) ?_;unfold v31.q8 v31.q7 v31.q6 v31.q5 v31.q4 v31.q3 v31.q2 v31.q1;have m0:=R7;have r1:dw 1:=by simp only[dw];omega
 have r2:dw 2:=by simp only[dw];omega
 have r3:dw 3:=by simp only[dw];omega
 have l1:=DW (w:=wa+wb) h1 h2;have l2:=DW (w:=wb+wa) h2 h1;have n1:=h1.n8;have n2:=h2.n8;simp only[ek,eq_self,true_and,and_true,eq_true m0,eq_true r1,eq_true r2,eq_true r3];simp only[mc];refine⟨⟨by omega,by omega⟩,h1,h2,⟨0,rfl,rfl,rfl,by omega,by first|omega|(dsimp only;omega)⟩,λa ha=>⟨λhl=>?_,λhl=>?_⟩⟩
 .have iN:a<(aD a7 a6 qa b7 b6 qb (wa+wb)).length:=by omega
  have hs:=Pa (d:=(0,0,0,())) h1 h2 iN;exact⟨⟨by omega,by omega⟩,hs.1,hs.2,by omega,by omega,by omega,by omega,KL iN l1 (by decide) (by decide)⟩
 have iN:¬a<(aD a7 a6 qa b7 b6 qb (wa+wb)).length:=by omega
 have e:=LF (na:=(a7.length:Int)) (nb:=(b7.length:Int)) (t:=false) (q:=([],0)) iN ha;have b:=Nt (na:=(a7.length:Int)) (nb:=(b7.length:Int)) (t:=false) (aD a7 a6 qa b7 b6 qb (wa+wb)) ([],0);simp only at b;refine⟨⟨by omega,by omega⟩,h2,h1,⟨0,by rw[e];rfl,rfl,by rw[e];rfl,by omega,by first|omega|(dsimp only;omega)⟩,λa ha=>⟨λhl=>?_,λhl=>?_⟩⟩
 .have iN:a<(aD b7 b6 qb a7 a6 qa (wb+wa)).length:=by omega
  have hs:=Pa (d:=(0,0,0,())) h2 h1 iN;exact⟨⟨by omega,by omega⟩,hs.1,hs.2,by omega,by omega,by omega,by omega,KL iN l2 (by omega) (by omega)⟩
 have iN:¬a<(aD b7 b6 qb a7 a6 qa (wb+wa)).length:=by omega
 rw[LF iN ha];rfl
end Go.Tv
