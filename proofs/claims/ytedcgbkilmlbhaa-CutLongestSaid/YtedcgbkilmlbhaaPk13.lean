import Derived.Test.YtedcgbkilmlbhaaPk12
import Derived.Test.YtedcgbkilmlbhaaPk06
set_option maxHeartbeats 1000000
set_option maxRecDepth 100000
namespace Go.Tv
open Go Go.Di Go.Proofs
abbrev pcS(f:List Int->List Int->Int->List Int->List Prop):sM:=.ex (List Int) λu=>.ex (List Int) λl=>.ex Int λw=>.ex (List Int) λls=>.ex (List Int) λr=>.ex Int λz=>.res (pcV u l w ls) (FR r z) (f u l w ls)
def D12:List TV->List TV->Dn
 |[.ptr 0 0,.val (.int .i64 c)],[.sl (.int .i64) _ .no,.val (.int .u64 _)]=>some ([3<=c,c<=8],pcS λu l w ls=>[Ok u l w ls,(u.length:Int)<=c],[])
 |_,_=>none
theorem v12:VC T4 Try.f8 [some aW] [some bH,some (.int .u64)] D12:=by
 refine mV λa cs=>?_;unfold D12;split
 rotate_left
 .trivial
 rename_i c r z;intro hp;obtain⟨h1,h2,-⟩:=hp;refine nS (A:=(-1000:Int)<=3/\(3:Int)<=1000/\(-1000:Int)<=c/\c<=1003/\c<=5000/\∀(a:Int)(z:List Int)(y:Int),3<=a->a<=c\/a=3->0<=a/\a<=100/\∀(w X:List Int)(Y:Int),(↑w.length:Int)=a->qq w->0<=a/\a<=100/\∀(u h:List Int)(g:Int),(↑u.length:Int)=a->qq u->(2:Int)<=1000/\(-10000:Int)<=2/\∀(a:Int)(f:List Int)(e:Int),0<=a->a<=2\/a=0->0<4/\4<=1000/\∀(r:Int)(d:List Int)(b:Int),r∈[(0:Int),(0:Int),(1:Int),a]->∀(a n:List Int)(k:Int),a≠[]->(∀(x:Int),x∈a->0<=x/\x<=3)->List.Pairwise (λ(x1 x2:Int)=>x1<x2) a->∃(v:List Int),∃(s:List Int),∃(t:Int),∃(m:List Int),∃(j:List Int),∃(i:Int),w=v/\u=s/\r=t/\a=m/\n=j/\k=i/\Ok v s t m/\(↑v.length:Int)<=c/\True) (by kernel_rfl) ?_;simp only[dz,ek,fC,gF,iX,dQ,and_true,true_and,eq_self];refine⟨by omega,by omega,by omega,by omega,by omega,λn r1 z1 h3 h4=>⟨by omega,by omega,λu r2 z2 h5 h6=>⟨by omega,by omega,λl r3 z3 h7 h8=>⟨by omega,by omega,λk r4 z4 h9 wO=>⟨by omega,by omega,λw r5 z5 HT ls r6 z6 Yr h13 h14=>?_⟩⟩⟩⟩⟩;have h15:0<=w/\w<=2:=by simp at HT;omega
 exact⟨u,l,w,ls,r6,z6,rfl,rfl,rfl,rfl,rfl,rfl,⟨by omega,by omega,by omega,h6,h8,h15.1,h15.2,Yr,h13,h14⟩,by omega⟩
def D77:List TV->Dn
 |[.agg [.sl (.int .i64) u .no,.sl (.int .i64) l .no,.val (.int .i64 w),.sl (.int .i64) ls .no]]=>some ([Sh u l ls],.res (bI (uo u l w ls)) [] [],
  [(3,.un 3),(19,.ex Nat λi=>.st {sl:=[(71,bI i)],en:=[i<=ls.length,oL ls 0=oL ls i],m:=ls.length-i})])
 |_=>none
theorem v77:VI T4 Try.f80 [some cn] D77:=by
 refine gz λa=>?_;unfold D77;split
 rotate_left
 .trivial
 rename_i u l w ls;change List Int at u l ls;intro hp;obtain⟨h1,h2,h3⟩:=hp.1;refine nS (A:=((0:Int)<=0/\0<(↑(2:Nat):Int))/\aO (decide ((↑u.length:Int)<3)) (7=uo u l w ls/\True) (aO (decide ((↑u.length:Int)<(↑u.length:Int))) (7=uo u l w ls/\True) (aO (decide ((↑u.length:Int)>8)) (6=uo u l w ls/\True) (aO (decide ((↑u.length:Int)>(↑u.length:Int))) (6=uo u l w ls/\True) (dQ (1:Int)/\((0:Int)<=1/\1<(↑(2:Nat):Int))/\aO (decide ((↑l.length:Int)<3)) (7=uo u l w ls/\True) (aO (decide ((↑l.length:Int)<(↑u.length:Int))) (7=uo u l w ls/\True) (aO (decide ((↑l.length:Int)>8)) (6=uo u l w ls/\True) (aO (decide ((↑l.length:Int)>(↑u.length:Int))) (6=uo u l w ls/\True) (dQ (2:Int)/\u.length<=1000/\aO (!u.all (uj (9:Int))) (1=uo u l w ls/\True) (l.length<=1000/\aO (!l.all (uj (9:Int))) (1=uo u l w ls/\True) (aO (decide (w<0)) (1=uo u l w ls/\True) (aO (decide (w>2)) (1=uo u l w ls/\True) (aO ((↑ls.length:Int)==0) (7=uo u l w ls/\True) ((∃(a:Nat),0=(↑a:Int)/\a<=ls.length/\oL ls 0=oL ls a/\ls.length-a<1000000)/\∀(a:Nat),a<=ls.length->oL ls 0=oL ls a->aO (decide ((↑a:Int)<(↑ls.length:Int))) ((0<=(↑a:Int)/\(↑a:Int)<(↑ls.length:Int))/\aO (decide (ls.getD a 0<0)) (8=uo u l w ls/\True) (aO (decide (ls.getD a 0>3)) (8=uo u l w ls/\True) (aO (decide ((↑a:Int)>0)) (dQ ((↑a:Int)-1)/\(0<=(↑a:Int)-1/\(↑a:Int)-1<(↑ls.length:Int))/\aO (decide (ls.getD a 0<=ls.getD ((↑a:Int)-1).toNat (0:Int))) (5=uo u l w ls/\True) (dQ ((↑a:Int)+1)/\∃(x:Nat),ls=ls/\(↑ls.length:Int)=(↑ls.length:Int)/\(↑a:Int)+1=(↑x:Int)/\u=u/\l=l/\w=w/\ls=ls/\x<=ls.length/\oL ls 0=oL ls x/\ls.length-x<ls.length-a)) (dQ ((↑a:Int)+1)/\∃(x:Nat),ls=ls/\(↑ls.length:Int)=(↑ls.length:Int)/\(↑a:Int)+1=(↑x:Int)/\u=u/\l=l/\w=w/\ls=ls/\x<=ls.length/\oL ls 0=oL ls x/\ls.length-x<ls.length-a)))) (0=uo u l w ls/\True))))))))))))))) (by kernel_rfl) ?_;simp only[dz,ek,fC,gF,iX,dQ,and_true,true_and,eq_self];refine⟨by omega,λa1=>?_,λa1=>⟨λa2=>by omega,λ_=>⟨λa3=>?_,λa3=>⟨λ_=>by omega,λ_=>⟨by omega,by omega,λa4=>?_,λa4=>⟨λa5=>?_,λa5=>⟨λa6=>?_,λa6=>⟨λa7=>?_,λa7=>⟨by omega,by omega,?_⟩⟩⟩⟩⟩⟩⟩⟩⟩;.rw[uo,if_pos (by omega)]
 .rw[uo,if_neg (by omega),if_pos (by omega)]
 .rw[uo,if_neg (by omega),if_neg (by omega),if_pos (by omega)]
 .rw[uo,if_neg (by omega),if_neg (by omega),if_pos (by omega)]
 .rw[uo,if_neg (by omega),if_neg (by omega),if_neg (by omega),if_pos (by omega)]
 .rw[uo,if_neg (by omega),if_neg (by omega),if_neg (by omega),if_pos (by omega)]
 have e1:∀(_:u.all (uj 9)=false\/l.all (uj 9)=false\/w<0\/2<w),1=uo u l w ls:=λh=>by rw[uo,if_neg (by omega),if_neg (by omega),if_neg (by omega),if_neg (by omega),if_pos h]
 rw[lB];refine⟨λb1=>⟨by omega,?_⟩,λb1=>e1 (.inl b1)⟩;rw[lB];refine⟨λb2=>⟨λb3=>e1 (.inr (.inr (.inl b3))),λb3=>⟨λb4=>e1 (.inr (.inr (.inr b4))),λb4=>⟨λb5=>?_,λb5=>?_⟩⟩⟩,λb2=>e1 (.inr (.inl b2))⟩;.rw[uo,if_neg (by omega),if_neg (by omega),if_neg (by omega),if_neg (by omega),if_neg (by rw[b1,b2];simp;omega),if_pos (by omega)]
 have e:uo u l w ls=oL ls 0:=abd (by omega) (by omega) (by omega) (by omega) (by rw[b1];rfl) (by rw[b2];rfl) (by omega) (by omega) (by omega);rw[e];refine⟨⟨0,rfl,by omega,rfl,by omega⟩,λi k1 k2=>⟨λk3=>⟨by omega,λk4=>?_,λk4=>⟨λk5=>?_,λk5=>⟨λk6=>⟨by omega,by omega,λk7=>?_,λk7=>⟨by omega,i+1,by omega,by omega,k2.trans (Eu (by omega) (by omega) ?_),by omega⟩⟩,λk6=>⟨by omega,i+1,by omega,by omega,k2.trans (Eu (by omega) (by omega) (by omega)),by omega⟩⟩⟩⟩,λk3=>?_⟩⟩;.rw[k2,UH (by omega) (.inl k4)]
 .rw[k2,UH (by omega) (.inr (by omega))]
 .rw[k2,abO (by omega) (by omega) ⟨by omega,by rw[show i-1=((i:Int)-1).toNat by omega];exact k7⟩]
 .rw[show i-1=((i:Int)-1).toNat by omega];exactλh=>k7 h.2
 rw[k2,abP (by omega)]
def T5:fQ:=(T4.oz 8 λa c=>dS (D12 a c)).eV 80 λa=>dS (D77 a)
def D13:List TV->List TV->Dn
 |[.ptr 0 0,.agg [.sl (.int .i64) u .no,.sl (.int .i64) l .no,.val (.int .i64 w),.sl (.int .i64) ls .no]],[.sl (.int .i64) _ .no,.val (.int .u64 _)]=>some ([Ok u l w ls],pcS λu1 l1 w1 ls1=>[Ok u1 l1 w1 ls1,u1=l.map (9-·)],
  [(5,.ex (List Int) λu1=>.ex (List Int) λl1=>.ex Int λw1=>.ex (List Int) λls1=>.ex (List Int) λr=>.ex Int λz=>.ex Nat λi=>.st {sl:=[(6,bI i)],pl:=[(0,FR r z),(3,[.sl cn ((l.take i).map (9-·)) (.kA 4),.sl cn l1 .no,bI w1,.sl cn ls1 .no])],own:=[(3,1)],en:=[i<=l.length,Ok u1 l1 w1 ls1,l1.length=l.length],m:=l.length-i})])
 |_,_=>none
theorem v13:VC T5 Try.f9 [some aW] [some bH,some (.int .u64)] D13:=by
 refine mV λa cs=>?_;unfold D13;split
 rotate_left
 .trivial
 rename_i u l w ls r z;intro hp;have h1:=hp.1;refine nS (A:=3<=(↑u.length:Int)/\(↑u.length:Int)<=8/\∀(a y:List Int)(z:Int)(d X:List Int)(Y:Int),Ok a y z d->(↑a.length:Int)<=(↑u.length:Int)->0<=(↑u.length:Int)/\(↑u.length:Int)<=100/\∀(a c:List Int)(b:Int),(↑a.length:Int)=(↑u.length:Int)->qq a->(∃(s:List Int),∃(r:List Int),∃(t:Int),∃(n:List Int),∃(i:List Int),∃(v:Int),∃(h:Nat),0=(↑h:Int)/\c=i/\b=v/\[]=List.map (λ(x:cn.den)=>(9:cn.den)-x) (List.take h l)/\a=r/\z=t/\d=n/\h<=l.length/\Ok s r t n/\r.length=l.length/\l.length-h<1000000)/\∀(a s:List Int)(r:Int)(t n:List Int)(i:Int)(v:Nat),v<=l.length->Ok a s r t->s.length=l.length->aO (decide ((↑v:Int)<(↑l.length:Int))) ((0<=(↑v:Int)/\(↑v:Int)<(↑l.length:Int))/\dQ ((9:Int)-l.getD v 0)/\(List.map (λ(x:cn.den)=>(9:cn.den)-x) (List.take v l)).length+1<=1000000000/\dQ ((↑v:Int)+1)/\∃(a:List Int),∃(m:List Int),∃(k:Int),∃(j:List Int),∃(f:List Int),∃(e:Int),∃(g:Nat),(↑v:Int)+1=(↑g:Int)/\n=f/\i=e/\u=u/\l=l/\w=w/\ls=ls/\(0:Int)=0/\List.map (λ(x:cn.den)=>(9:cn.den)-x) (List.take v l)++[(9:Int)-l.getD v 0]=List.map (λ(x:cn.den)=>(9:cn.den)-x) (List.take g l)/\s=m/\r=k/\t=j/\g<=l.length/\Ok a m k j/\m.length=l.length/\l.length-g<l.length-v) (∃(a:List Int),∃(m:List Int),∃(k:Int),∃(j:List Int),∃(f:List Int),∃(e:Int),List.map (λ(x:cn.den)=>(9:cn.den)-x) (List.take v l)=a/\s=m/\r=k/\t=j/\n=f/\i=e/\Ok a m k j/\a=List.map (λ(x:cn.den)=>(9:cn.den)-x) l/\True)) (by kernel_rfl) ?_;simp only[dz,ek,fC,gF,iX,dQ,and_true,true_and,eq_self];have:=h1.n3;have:=h1.n8;have:=h1.len;refine⟨by omega,by omega,λu1 l1 w1 ls1 r1 z1 h2 h3=>⟨by omega,by omega,λo r2 z2 h4 h5=>⟨⟨o,o,w1,ls1,r2,z2,0,rfl,rfl,rfl,rfl,rfl,rfl,rfl,by omega,⟨by omega,by omega,rfl,h5,h5,h2.w0,h2.w2,h2.ne,h2.yw,h2.Yv⟩,by omega,by omega⟩,λu3 o w ls r3 z3 i h6 h7 h8=>⟨λh9=>?_,λh9=>?_⟩⟩⟩⟩;.have:=h1.hl _ (qi (l:=l) (i:=i) (by omega));exact⟨by omega,by omega,by simp;omega,by omega,u3,o,w,ls,r3,z3,i+1,by omega,rfl,rfl,F4 (f:=λx=>9-x) (by omega),rfl,rfl,rfl,by omega,h7,h8,by omega⟩
 rw[show i=l.length by omega,fW];exact⟨_,o,w,ls,r3,z3,rfl,rfl,rfl,rfl,rfl,rfl,Xp h7 h8 h1.hl,rfl⟩
def D59:List TV->Dn
 |[.sl (.pair (.sl (.int .i64)) (.pair (.sl (.int .i64)) (.pair (.int .i64) (.pair (.sl (.int .i64)) .unit)))) l .no]=>some ([l.length<=1000,∀p∈l,iA p],.res (bI (iK l)) [] [],
  [(3,.ex Nat λi=>.st {sl:=[(8,bI i)],en:=[i<=l.length,iK (l.take i)=0],m:=l.length-i})])
 |_=>none
theorem v59:VI T5 Try.f66 [some cn] D59:=by
 refine gz λa=>?_;unfold D59;split
 rotate_left
 .trivial
 rename_i l;intro hp;obtain⟨h1,h2,-⟩:=hp;refine nS (A:=(∃(a:Nat),0=(↑a:Int)/\a<=l.length/\iK (List.take a l)=0/\l.length-a<1000000)/\∀(a:Nat),a<=l.length->iK (List.take a l)=0->aO (decide ((↑a:Int)<(↑l.length:Int))) ((0<=(↑a:Int)/\(↑a:Int)<(↑l.length:Int))/\Sh (l.getD a ([],[],0,[],())).1 (l.getD a ([],[],0,[],())).2.1 (l.getD a ([],[],0,[],())).2.2.2.1/\aO (uo (l.getD a ([],[],0,[],())).1 (l.getD a ([],[],0,[],())).2.1 (l.getD a ([],[],0,[],())).2.2.1 (l.getD a ([],[],0,[],())).2.2.2.1 !=0) (uo (l.getD a ([],[],0,[],())).1 (l.getD a ([],[],0,[],())).2.1 (l.getD a ([],[],0,[],())).2.2.1 (l.getD a ([],[],0,[],())).2.2.2.1=iK l/\True) (dQ ((↑a:Int)+1)/\∃(x:Nat),l=l/\(↑l.length:Int)=(↑l.length:Int)/\(↑a:Int)+1=(↑x:Int)/\x<=l.length/\iK (List.take x l)=0/\l.length-x<l.length-a)) (0=iK l/\True)) (by kernel_rfl) ?_;simp only[dz,ek,fC,gF,iX,dQ,and_true,true_and,eq_self];refine⟨⟨0,rfl,by omega,rfl,by omega⟩,λi k1 k2=>⟨λk3=>⟨by omega,XO (P:=iA) (by omega) h2,λk4=>⟨by omega,i+1,by omega,by omega,X6 (by omega) k2 k4,by omega⟩,λk4=>(abe (by omega) k2 k4).symm⟩,λk3=>?_⟩⟩;rw[show i=l.length by omega,fW]at k2;rw[k2]
def T6:fQ:=(T5.oz 9 λa c=>dS (D13 a c)).eV 66 λa=>dS (D59 a)
def T7:fQ:=T6
def T8:fQ:=T7
section
variable {bM:bS} (tk:AH bM)
include tk
theorem acC:kK bM 5 T5:=ug tk (acD tk) (by decide) Try.func80 rfl v77 (FC (acD tk) Try.func8 rfl v12 (iz (acD tk)))
theorem TU:kK bM 6 T6:=ug tk (acC tk) (by decide) Try.func66 rfl v59 (FC (acC tk) Try.func9 rfl v13 (iz (acC tk)))
end
end Go.Tv
namespace Go.Tv
open Go Go.Di Go.Proofs
end Go.Tv
namespace Go.Tv
open Go Go.Di Go.Proofs
def adZ(la ub:List Int)(nb k:Nat):List Int:=((List.range k).map λ(j:Nat)=>(j:Int)-(nb:Int)).filterMap λs=>if 3<=(stA la ub s).2.2 then some ((stA la ub s).2.1-(stA la ub s).1)else none
def adX(ua la:List Int)(x:Int)(ub lb:List Int)(y:Int):List Int:=adZ (iW x ua la) (iV y ub lb) ub.length (ub.length+ua.length+1)
def adY(ua la ub lb ys:List Int)(x:Int):List Int:=ys.flatMap (adX ua la x ub lb)
def aiw(ua la lsa ub lb lsb:List Int):List Int:=lsa.flatMap (adY ua la ub lb lsb)
theorem aaI{n:Int}{u l:List Int}(h:l.length=u.length):(iV n u l).length=u.length/\(iW n u l).length=u.length:=by unfold iV iW;constructor<;>(repeat' split)<;>simp[h]
theorem aaT{l:List Int}(h:qq l):qq l.reverse:=λx hx=>h x (List.mem_reverse.1 hx)
theorem Vy{n:Int}{u l:List Int}(h1:qq u)(h2:qq l):qq (iV n u l)/\qq (iW n u l):=by unfold iV iW;constructor<;>(repeat' split)<;>first|assumption|exact aaT (by assumption)
end Go.Tv
namespace Go.Tv
open Go Go.Di Go.Proofs
structure Uj (bM:bS):Prop where
 rev:∀(l:List Int) d,l.length<=1000000->RT gd [] (.sl cn l .no) d->∃r,bM 83 [d]=some r/\r.pure=true/\RT gd [] (.sl cn l.reverse .no) r
def adw:List TV->Sp
 |[.sl (.int .i64) l .no]=>some ([l.length<=1000000],.res (.sl cn l.reverse .no) [] [])
 |_=>none
def D79:List TV->Dn
 |[.sl (.int .i64) l .no]=>some ([l≠[],l.length<=1000],.res (.sl cn l .no) [] [],[])
 |_=>none
theorem v79:VI T0 Try.f95 [some bH] D79:=by
 refine gz λa=>?_;unfold D79;split
 rotate_left
 .trivial
 rename_i l;change List Int at l;intro hp;obtain⟨h1,h2,-⟩:=hp;refine nS (A:=l≠[]/\0+l.length<=1000000000/\l=l/\True) (by kernel_rfl) ?_;exact⟨h1,by omega,rfl,trivial⟩
def D98:List TV->Dn
 |[.sl (.int .i64) l .no,.val (.int .i64 x)]=>some ([l.length<=1000],.res (bI (uS l x)) [] [],[(3,.ex Nat λi=>.st {sl:=[(8,bI i)],en:=[i<=l.length,x∉l.take i],m:=l.length-i})])
 |_=>none
theorem v98:VI T0 Try.f82 [some cn] D98:=by
 refine gz λa=>?_;unfold D98;split
 rotate_left
 .trivial
 rename_i l x;change List Int at l;intro hp;have h1:=hp.1;refine nS (A:=(∃(a:Nat),0=(↑a:Int)/\a<=l.length/\¬x∈List.take a l/\l.length-a<1000000)/\∀(a:Nat),a<=l.length->¬x∈List.take a l->aO (decide ((↑a:Int)<(↑l.length:Int))) ((0<=(↑a:Int)/\(↑a:Int)<(↑l.length:Int))/\aO (x==l.getD a 0) ((↑a:Int)=uS l x/\True) (dQ ((↑a:Int)+1)/\∃(y:Nat),l=l/\x=x/\(↑l.length:Int)=(↑l.length:Int)/\(↑a:Int)+1=(↑y:Int)/\y<=l.length/\¬x∈List.take y l/\l.length-y<l.length-a)) ((-1:Int)=uS l x/\True)) (by kernel_rfl) ?_;simp only[dz,ek,fC,gF,iX,dQ,and_true,true_and,eq_self];refine⟨⟨0,by omega,by omega,by simp,by omega⟩,λi h2 h3=>⟨λh4=>⟨by omega,λh5=>?_,λh5=>⟨by omega,i+1,by omega,by omega,?_,by omega⟩⟩,λh4=>?_⟩⟩;.rw[SB (by omega) h3 h5.symm]
 .rw[take_one (by omega)];simp only[dX,bC,not_or];exact⟨h3,h5⟩
 rw[show i=l.length by omega,fW]at h3;rw[uS,if_neg h3]
def D99:List TV->Dn
 |[.agg [.sl (.int .i64) u .no,.sl (.int .i64) l .no]]=>some ([],.res (edV u l) [] [],[])
 |_=>none
theorem v99:VI T0 Try.f73 [some (.pair bH (.pair bH .unit))] D99:=by
 refine gz λa=>?_;unfold D99;split
 rotate_left
 .trivial
 rename_i u l;intro hp;refine nS (A:=u=u/\l=l/\True) (by kernel_rfl) ?_;exact⟨rfl,rfl,trivial⟩
def T0r:fQ:=T0.eV 83 adw
def adQ:List TV->Dn
 |[.agg [.sl (.int .i64) u .no,.sl (.int .i64) l .no]]=>some ([u.length<=1000,l.length<=1000],.res (edV l.reverse u.reverse) [] [],[])
 |_=>none
theorem ahp:VI T0r Try.f74 [some (.pair bH (.pair bH .unit))] adQ:=by
 refine gz λa=>?_;unfold adQ;split
 rotate_left
 .trivial
 rename_i u l;intro hp;obtain⟨h1,h2,-⟩:=hp;refine nS (A:=l.length<=1000000/\u.length<=1000000/\l.reverse=l.reverse/\u.reverse=u.reverse/\True) (by kernel_rfl) ?_;exact⟨by omega,by omega,rfl,rfl,trivial⟩
def adP:List TV->Dn
 |[.agg [.sl (.int .i64) u .no,.sl (.int .i64) l .no]]=>some ([u.length<=1000,l.length<=1000],.res (edV u.reverse l.reverse) [] [],[])
 |_=>none
theorem aho:VI T0r Try.f75 [some (.pair bH (.pair bH .unit))] adP:=by
 refine gz λa=>?_;unfold adP;split
 rotate_left
 .trivial
 rename_i u l;intro hp;obtain⟨h1,h2,-⟩:=hp;refine nS (A:=u.length<=1000000/\l.length<=1000000/\u.reverse=u.reverse/\l.reverse=l.reverse/\True) (by kernel_rfl) ?_;exact⟨by omega,by omega,rfl,rfl,trivial⟩
def adO:List TV->Dn
 |[.agg [.sl (.int .i64) u .no,.sl (.int .i64) l .no]]=>some ([],.res (edV l u) [] [],[])
 |_=>none
theorem afe:VI T0 Try.f76 [some (.pair bH (.pair bH .unit))] adO:=by
 refine gz λa=>?_;unfold adO;split
 rotate_left
 .trivial
 rename_i u l;intro hp;refine nS (A:=l=l/\u=u/\True) (by kernel_rfl) ?_;exact⟨rfl,rfl,trivial⟩
def U1:fQ:=(((((T0r.eV 95 λa=>dS (D79 a)).eV 82 λa=>dS (D98 a)).eV 73 λa=>dS (D99 a)).eV 74 λa=>dS (adQ a)).eV 75 λa=>dS (adP a)).eV 76 λa=>dS (adO a)
def D80:List TV->Dn
 |[.sl (.int .i64) l .no,.val (.int .i64 x)]=>some ([l.length<=1000],.res (nW (decide (x∈l))) [] [],[])
 |_=>none
theorem v80:VI U1 Try.f72 [some .bool] D80:=by
 refine gz λa=>?_;unfold D80;split
 rotate_left
 .trivial
 rename_i l x;change List Int at l;intro hp;have h1:=hp.1;refine nS (A:=l.length<=1000/\decide (uS l x>=0)=decide (x∈l)/\True) (by kernel_rfl) ?_;refine⟨h1,?_,trivial⟩;rw[decide_eq_decide,uS];split<;>simp_all
def D83:List TV->Dn
 |[.val (.int .i64 n),.agg [.sl (.int .i64) u .no,.sl (.int .i64) l .no]]=>some ([u.length<=1000,l.length<=1000,0<=n,n<=3],.res (edV (iV n u l) (iW n u l)) [] [],[])
 |_=>none
theorem v83:VI U1 Try.f57 [some (.pair bH (.pair bH .unit))] D83:=by
 refine gz λa=>?_;unfold D83;split
 rotate_left
 .trivial
 rename_i n u l;intro hp;obtain⟨h1,h2,h3,h4,-⟩:=hp;refine nS (A:=aO (decide (n=0)) (u=iV n u l/\l=iW n u l/\True) (aO (decide (n=1)) (u.length<=1000/\l.length<=1000/\l.reverse=iV n u l/\u.reverse=iW n u l/\True) (aO (decide (n=2)) (u.length<=1000/\l.length<=1000/\u.reverse=iV n u l/\l.reverse=iW n u l/\True) (aO (decide (n=3)) (l=iV n u l/\u=iW n u l/\True) False)))) (by kernel_rfl) ?_;have e:n=0\/n=1\/n=2\/n=3:=by omega
 rcases e with rfl|rfl|rfl|rfl;.exact⟨rfl,rfl,trivial⟩
 .exact⟨h1,h2,rfl,rfl,trivial⟩
 .exact⟨h1,h2,rfl,rfl,trivial⟩
 exact⟨rfl,rfl,trivial⟩
def U2:fQ:=(U1.eV 72 λa=>dS (D80 a)).eV 57 λa=>dS (D83 a)
abbrev wkV(u l:List Int)(w:Int)(ls:List Int):TV:=.agg [.sl cn u .no,.sl cn l .no,bI w,.sl cn ls .no,.sl cn u .no,.sl cn l .no,.sl cn l.reverse .no,.sl cn u.reverse .no,.sl cn u.reverse .no,.sl cn l.reverse .no,.sl cn l .no,.sl cn u .no]
def D50:List TV->Dn
 |[.agg [.sl (.int .i64) u .no,.sl (.int .i64) l .no,.val (.int .i64 w),.sl (.int .i64) ls .no]]=>some ([u.length<=1000,l.length<=1000],.res (wkV u l w ls) [] [],[(4,.un 5)])
 |_=>none
theorem v50:VI U2 Try.f32 [none] D50:=by
 refine gz λa=>?_;unfold D50;split
 rotate_left
 .trivial
 rename_i u l w ls;intro hp;refine nS (A:=u.length<=1000/\l.length<=1000/\(0:Int)<=0/\(0:Int)<=3/\True/\dQ (1:Int)/\u.length<=1000/\l.length<=1000/\(0:Int)<=1/\(1:Int)<=3/\True/\dQ (2:Int)/\u.length<=1000/\l.length<=1000/\(0:Int)<=2/\(2:Int)<=3/\True/\dQ (3:Int)/\u.length<=1000/\l.length<=1000/\(0:Int)<=3/\(3:Int)<=3/\True/\dQ (4:Int)/\u=u/\l=l/\w=w/\ls=ls/\iV (0:Int) u l=u/\iW (0:Int) u l=l/\iV (1:Int) u l=l.reverse/\iW (1:Int) u l=u.reverse/\iV (2:Int) u l=u.reverse/\iW (2:Int) u l=l.reverse/\iV (3:Int) u l=l/\iW (3:Int) u l=u/\True) (by kernel_rfl) ?_;obtain⟨h1,h2,-⟩:=hp;simp only[dQ]
 repeat' (first|exact h1|exact h2|omega|rfl|trivial|apply And.intro)
section
variable {bM:bS} (tk:AH bM) (tr:Uj bM)
theorem fD{k:Nat}{T:fQ}(h:kK bM k T):∀m,kK bM (m+k) T
 |0=>by rwa [jr]
 |m+1=>by have:=iz (fD h m);rwa [Nat.add_right_comm]at this
theorem NJ{T:fQ}{k:Nat}(tr:Uj bM)(hT:kK bM k T):kK bM k (T.eV 83 adw):=Uq hT λn a p s hs hp=>by
 unfold adw at hs;split at hs;.rename_i l;cases hs;intro bR hd;obtain⟨d,_,rfl,h1,h2⟩:=ak hd;rw[aP h2];obtain⟨r,k1,k2,k3⟩:=tr.rev l d hp.1 h1;exact⟨r,_,by simp only[CG,mc,k1,k2,if_true],k2,k3,rfl,rfl,trivial⟩
 cases hs
include tk tr
theorem Y2:kK bM 1 U1:=ug tk (gA tk) (by decide) Try.func76 rfl afe (ug tk (NJ tr (gA tk)) (by decide) Try.func75 rfl aho (ug tk (NJ tr (gA tk)) (by decide) Try.func74 rfl ahp (ug tk (gA tk) (by decide) Try.func73 rfl v99 (ug tk (gA tk) (by decide) Try.func82 rfl v98 (ug tk (gA tk) (by decide) Try.func95 rfl v79 (iz (NJ tr (gA tk))))))))
theorem Y1:kK bM 2 U2:=ug tk (Y2 tk tr) (by decide) Try.func57 rfl v83 (ug tk (Y2 tk tr) (by decide) Try.func72 rfl v80 (iz (Y2 tk tr)))
def W8:fQ:=((T8.eV 95 λa=>dS (D79 a)).eV 72 λa=>dS (D80 a)).eV 32 λa=>dS (D50 a)
end
end Go.Tv
namespace Go.Tv
open Go Go.Di Go.Proofs
variable {P:Program}
def BX(kt:TT)(x:kt.den):List kt.den->Nat->Option (Nat×Value)
 |[],_=>none
 |y::l,i=>bif @decide (x=y) (CM kt x y)then some (i,.bool true)else BX kt x l (i+1)
theorem Bv{kt:TT}{x:kt.den}:∀{l:List kt.den}{i:Nat},(iG kt x l=true/\∃j,BX kt x l i=some (i+j,.bool true)/\l[j]? =some x)\/(iG kt x l=false/\BX kt x l i=none)
 |[],i=>.inr ⟨rfl,rfl⟩
 |y::l,i=>by
  simp only[BX,iG,List.any_cons];cases h:@decide (x=y) (CM kt x y)
  .rcases@Bv kt x l (i+1)with ⟨h1,j,h2,h3⟩|⟨h1,h2⟩;.refine .inl ⟨h1,j+1,?_,by simpa using h3⟩;rw[cond_false,h2,show i+1+j=i+(j+1)by omega]
   exact .inr ⟨h1,h2⟩
  have hx:x=y:=@of_decide_eq_true _ (CM kt x y) h;exact .inl ⟨rfl,0,rfl,by rw[hx];rfl⟩
theorem HL{key:TypeId}{kt:TT}(he:∀x y,cu P (Op.equal key (mQ kt x) (mQ kt y))=some (@decide (x=y) (CM kt x y)))(x:kt.den):∀(l:List kt.den)(i:Nat),cu P (Instr.findAsking key (mQ kt x) ((sR kt l).map Di.OD) i)=some (BX kt x l i)
 |[],i=>rfl
 |y::l,i=>by
  simp only[sR,aV,Instr.findAsking,cU,Di.OD,he x y,cq,BX];cases@decide (x=y) (CM kt x y);.simp only[aG,if_false,cond_false];exact HL he x l (i+1)
  rfl
theorem VA{key:TypeId}{td:TypeDesc}{kt:TT}(hk:P.underlying key=some td)(hn:∀x y,Instr.sameNow td (mQ kt x) (mQ kt y)=none)(he:∀x y,cu P (Op.equal key (mQ kt x) (mQ kt y))=some (@decide (x=y) (CM kt x y)))(x:kt.den)(l:List kt.den):cu P (Instr.findKey key (mQ kt x) ((sR kt l).map Di.OD))=some (BX kt x l 0):=by
 simp only[Instr.findKey,cU,ga hk,cq];cases l with
 |nil=>rfl
 |cons y l=>simp only[sR,aV,Instr.findNow,Di.OD,hn x y];exact HL he x (y::l) 0
theorem XB{t key elem:TypeId}{kt:TT}{td:TypeDesc}(hu:P.underlying t=some (.map key elem))(hk:P.underlying key=some td)(hn:∀x y,Instr.sameNow td (mQ kt x) (mQ kt y)=none)(hz:cu P (zeroValue elem)=some (.bool false))(hc:∀b x,cu P (Instr.checkKey b 10000 key (mQ kt x))=some ())(he:∀x y,cu P (Op.equal key (mQ kt x) (mQ kt y))=some (@decide (x=y) (CM kt x y)))
  (hs:∀x,Instr.sameBits 10000 (mQ kt x) (mQ kt x)=true):xm P t kt where
 look:=λx l=>by
  simp only[Km,cU,ga hu,cq,hc,VA hk hn he x l];rcases@Bv kt x l 0 with ⟨h1,j,h2,-⟩|⟨h1,h2⟩;.rw[h1,h2];rfl
  rw[h1,h2];simp only[cU,hz,cq];rfl
 find:=λx l=>by
  refine⟨BX kt x l 0,?_,?_⟩;.simp only[Ku,cU,ga hu,cq,hc,VA hk hn he x l]
  rcases@Bv kt x l 0 with ⟨h1,j,h2,h3⟩|⟨h1,h2⟩
  .rw[h2];have e:(sR kt l)[0+j]? =some (mQ kt x,.bool true):=by simp[sR,h3]
   simp only[ML,e,hs,if_true,gb,h1,cond_true,aB];refine mD λi=>?_;rw[aF];split
   .rename_i e1;subst e1
    rw[e,if_pos (az.1 e).1]
   rfl
  rw[h2];simp only[ML,gb,h1,cond_false,aB];simp[sR]
end Go.Tv
namespace Go.Tv
open Go Go.Di Go.Proofs
abbrev gY:Type:=Bool×(Int×Int×Int×Unit)×Unit
def o1(na nb:Int)(x:gY):gY:=(!x.1,(jh x.2.1.2.1 1,jh x.2.1.1 1,x.2.1.2.2.1+nb-na,()),())
def o2(na nb:Int)(x:gY):gY:=(x.1,(jh x.2.1.1 2,jh x.2.1.2.1 2,na-nb-x.2.1.2.2.1,()),())
def o3(x:gY):gY:=(!x.1,(jh x.2.1.2.1 3,jh x.2.1.1 3,-x.2.1.2.2.1,()),())
def D56:List TV->Dn
 |[.agg [.val (.bool t),.val (.int .i64 u),.val (.int .i64 l),.val (.int .i64 s)],.val (.int .i64 na),.val (.int .i64 nb)]=>some ([-10000<=s,s<=10000,0<=na,na<=1000,0<=nb,nb<=1000],.res (.agg [nW (!t),bI (jh l 1),bI (jh u 1),bI (s+nb-na),nW t,bI (jh u 2),bI (jh l 2),bI (na-nb-s),nW (!t),bI (jh l 3),bI (jh u 3),bI (-s)]) [] [],[])
 |_=>none
def v56.q1 (p0:Bool)(p1 p2 p3 p4:Int)(p5:Prop):Prop:=p0=p0/\IntKind.i64.wrap (↑(BitVec.ofInt 64 p1^^^BitVec.ofInt 64 p2).toNat:Int)=jh p1 p2/\IntKind.i64.wrap (↑(BitVec.ofInt 64 p3^^^BitVec.ofInt 64 p2).toNat:Int)=jh p3 p2/\p4=p4/\p5
theorem v56:VI T0 Try.f56 [none] D56:=by
 refine gz λa=>?_;unfold D56;split
 rotate_left
 .trivial
 rename_i t u l s na nb;intro hp;refine nS (A:=dQ (s+nb)/\dQ (s+nb-na)/\dQ (na-nb)/\dQ (na-nb-s)/\dQ (-s)/\v56.q1 (!t) l (1:Int) u (s+nb-na) (v56.q1 t u (2:Int) l (na-nb-s) (v56.q1 (!t) l (3:Int) u (-s) True))) (by kernel_rfl) ?_;unfold v56.q1;obtain⟨h1,h2,h3,h4,h5,h6,-⟩:=hp;simp only[dQ,eq_self,true_and,and_true];exact⟨by omega,by omega,by omega,by omega,by omega,rfl,rfl,rfl,rfl,rfl,rfl⟩
def aC(ua la qa ub lb qb:List Int)(w:Int):List (Int×Int×Int×Unit):=qa.flatMap λx=>qb.flatMap λy=>(Aq (iW x ua la) (iV y ub lb) w (ub.length+ua.length+1)).map λs=>(x,y,s,())
structure Zw (bM:bS):Prop where
 abw:∀(ua la qa ub lb qb:List Int)(wa wb:Int) d1 d2,Ok ua la wa qa->Ok ub lb wb qb->RT gd [] (wkV ua la wa qa) d1->RT gd [] (wkV ub lb wb qb) d2->∃r,bM 33 [d1,d2]=some r/\r.pure=true/\RT gd [] (.sl bV (aC ua la qa ub lb qb (wa+wb)) .no) r
def S60:List TV->Sp
 |[.agg [.sl (.int .i64) ua .no,.sl (.int .i64) la .no,.val (.int .i64 wa),.sl (.int .i64) qa .no,.sl (.int .i64) a0 .no,.sl (.int .i64) a1 .no,.sl (.int .i64) a2 .no,.sl (.int .i64) a3 .no,.sl (.int .i64) a4 .no,.sl (.int .i64) a5 .no,.sl (.int .i64) a6 .no,.sl (.int .i64) a7 .no],.agg [.sl (.int .i64) ub .no,.sl (.int .i64) lb .no,.val (.int .i64 wb),.sl (.int .i64) qb .no,.sl (.int .i64) b0 .no,.sl (.int .i64) b1 .no,.sl (.int .i64) b2 .no,.sl (.int .i64) b3 .no,.sl (.int .i64) b4 .no,.sl (.int .i64) b5 .no,.sl (.int .i64) b6 .no,.sl (.int .i64) b7 .no]]=>some ([Ok ua la wa qa,Ok ub lb wb qb,a0=ua,a1=la,a2=la.reverse,a3=ua.reverse,a4=ua.reverse,a5=la.reverse,a6=la,a7=ua,b0=ub,b1=lb,b2=lb.reverse,b3=ub.reverse,b4=ub.reverse,b5=lb.reverse,b6=lb,b7=ub],.res (.sl bV (aC ua la qa ub lb qb (wa+wb)) .no) [] [])
 |_=>none
theorem Jm{α β:Type}{f:α->List β}{c:Nat}:∀{l:List α},(∀x∈l,(f x).length<=c)->(l.flatMap f).length<=l.length*c
 |[],_=>by simp
 |x::l,h=>by have h1:=h x (by simp);have h2:=Jm (f:=f) (l:=l) λy hy=>h y (by simp[hy]);rw[cM,cD,dw,j3];omega
theorem Qh:∀(l:List Int)(c:Int),(∀x∈l,c<=x/\x<=3)->l.Pairwise (·<·)->(l.length:Int)<=max 0 (4-c)
 |[],c,_,_=>by simp;omega
 |x::l,c,h,hp=>by have h1:=h x (by simp);rw[List.pairwise_cons]at hp;have h2:=Qh l (x+1) (λy hy=>⟨hp.1 y hy,(h y (by simp[hy])).2⟩) hp.2;rw[dw];omega
theorem q_len{u l q:List Int}{w:Int}(h:Ok u l w q):q.length<=4:=by have:=Qh q 0 h.yw h.Yv;omega
theorem Ec{ua la qa ub lb qb:List Int}{w wa wb:Int}(ha:Ok ua la wa qa)(hb:Ok ub lb wb qb):(aC ua la qa ub lb qb w).length<=272:=by have h1:=q_len ha;have h2:=q_len hb;have h3:=ha.n8;have h4:=hb.n8;unfold aC;refine bp (Jm (c:=68) λi _=>?_) (by omega);refine bp (Jm (c:=17) λj _=>?_) (by omega);rw[List.length_map,Aq];refine bp (we _ _) ?_;simp only[List.length_map,List.length_range];omega
theorem Z8{ua la qa ub lb qb:List Int}{w wa wb:Int}(ha:Ok ua la wa qa)(hb:Ok ub lb wb qb){x:Int×Int×Int×Unit}(h:x∈aC ua la qa ub lb qb w):-10000<=x.2.2.1/\x.2.2.1<=10000:=by have h3:=ha.n8;have h4:=hb.n8;simp only[aC,nN,dL,Aq,List.mem_filter,o5]at h;obtain⟨a,-,b,-,s,⟨⟨k,hk,rfl⟩,-⟩,rfl⟩:=h;have:=(aaI (n:=b) hb.len).1;simp only;omega
theorem Pw{ua la qa ub lb qb:List Int}{w wa wb:Int}(ha:Ok ua la wa qa)(hb:Ok ub lb wb qb){i:Nat}{d:Int×Int×Int×Unit}(h:i<(aC ua la qa ub lb qb w).length):-10000<=((aC ua la qa ub lb qb w).getD i d).2.2.1/\((aC ua la qa ub lb qb w).getD i d).2.2.1<=10000:=by rw[aR,bQ h,mC];exact Z8 ha hb (mB h)
def TJ(x y:gY):Bool:=(x.1==y.1)&&(((x.2.1.1==y.2.1.1)&&((x.2.1.2.1==y.2.1.2.1)&&((x.2.1.2.2.1==y.2.1.2.2.1)&&true)))&&true)
def oC(na nb:Int)(q:List gY×Int)(w:gY):List gY×Int:=
 (gb cv w q.1,bif iG cv (o1 na nb w) (gb cv w q.1)then q.2 else bif (!TJ (o2 na nb w) w&&iG cv (o2 na nb w) (gb cv w q.1))then q.2 else bif iG cv (o3 w) (gb cv w q.1)then q.2 else q.2+1)
def cS(na nb:Int)(t:Bool)(q:List gY×Int)(l:List (Int×Int×Int×Unit)):List gY×Int:=l.foldl (λq s=>oC na nb q (t,s,())) q
def Kc(ua la qa ub lb qb:List Int)(wa wb:Int):Int:=(cS ub.length ua.length true (cS ua.length ub.length false ([],0) (aC ua la qa ub lb qb (wa+wb))) (aC ub lb qb ua la qa (wb+wa))).2
section
variable {na nb:Int} {t:Bool} {q:List gY×Int} {l:List (Int×Int×Int×Unit)} {i:Nat}
theorem Yd(d:Int×Int×Int×Unit)(h:i<l.length):cS na nb t q (l.take (i+1))=oC na nb (cS na nb t q (l.take i)) (t,l.getD i d,()):=by rw[cS,List.take_succ_eq_append_getElem h,mE,aR,bQ h,mC];rfl
theorem LZ(h:¬i<l.length)(h':i<=l.length):cS na nb t q (l.take i)=cS na nb t q l:=by rw[show i=l.length by omega,fW]
theorem Z3(w:gY):q.2<=(oC na nb q w).2/\(oC na nb q w).2<=q.2+1:=by unfold oC;cases iG cv (o1 na nb w) (gb cv w q.1)<;>cases(!TJ (o2 na nb w) w&&iG cv (o2 na nb w) (gb cv w q.1))<;>cases iG cv (o3 w) (gb cv w q.1)<;>simp<;>omega
theorem NI:∀(l:List (Int×Int×Int×Unit))(q:List gY×Int),q.2<=(cS na nb t q l).2/\(cS na nb t q l).2<=q.2+l.length
 |[],q=>by simp[cS]
 |s::l,q=>by have h1:=Z3 (na:=na) (nb:=nb) (q:=q) (t,s,());have h2:=NI l (oC na nb q (t,s,()));have e:cS na nb t q (s::l)=cS na nb t (oC na nb q (t,s,())) l:=rfl;rw[e,dw];omega
variable {w:gY}
theorem st1(h:iG cv (o1 na nb w) (gb cv w q.1)=true):oC na nb q w=(gb cv w q.1,q.2):=by simp only[oC,h,cond_true]
theorem st2(h:iG cv (o1 na nb w) (gb cv w q.1)=false)(h2:(!TJ (o2 na nb w) w)=true)(h3:iG cv (o2 na nb w) (gb cv w q.1)=true):oC na nb q w=(gb cv w q.1,q.2):=by simp only[oC,h,h2,h3,fV,cond_true,cond_false]
theorem st3(h:iG cv (o1 na nb w) (gb cv w q.1)=false)(h2:(!TJ (o2 na nb w) w)=false\/iG cv (o2 na nb w) (gb cv w q.1)=false)(h3:iG cv (o3 w) (gb cv w q.1)=true):oC na nb q w=(gb cv w q.1,q.2):=by rcases h2 with h2|h2<;>simp only[oC,h,h2,h3,qO,Bool.false_and,cond_true,cond_false]
theorem st4(h:iG cv (o1 na nb w) (gb cv w q.1)=false)(h2:(!TJ (o2 na nb w) w)=false\/iG cv (o2 na nb w) (gb cv w q.1)=false)(h3:iG cv (o3 w) (gb cv w q.1)=false):oC na nb q w=(gb cv w q.1,q.2+1):=by rcases h2 with h2|h2<;>simp only[oC,h,h2,h3,qO,Bool.false_and,cond_false]
end
def DL(na nb:Int)(t:Bool)(q:List gY×Int)(l:List (Int×Int×Int×Unit))(i:Nat)(d:Int×Int×Int×Unit)(v:Int):Prop:=
 dQ ((i:Int)+1)/\∃j:Nat,v=(cS na nb t q (l.take j)).2/\(i:Int)+1=(j:Int)/\gb cv (t,l.getD i d,()) (cS na nb t q (l.take i)).1=(cS na nb t q (l.take j)).1/\j<=l.length/\l.length-j<l.length-i
theorem vM{na nb:Int}{t:Bool}{q:List gY×Int}{l:List (Int×Int×Int×Unit)}{i:Nat}{d:Int×Int×Int×Unit}{v:Int}(hi:i<l.length)(hl:l.length<=272)(e:oC na nb (cS na nb t q (l.take i)) (t,l.getD i d,())=(gb cv (t,l.getD i d,()) (cS na nb t q (l.take i)).1,v)):DL na nb t q l i d v:=by have e2:=(Yd d hi).trans e;exact⟨by simp only[dQ];omega,i+1,by rw[e2],by omega,by rw[e2],by omega,by omega⟩
theorem K5{na nb:Int}{t:Bool}{q:List gY×Int}{l:List (Int×Int×Int×Unit)}{i:Nat}{d:Int×Int×Int×Unit}(hi:i<l.length)(hl:l.length<=272)(h0:0<=q.2)(h1:q.2<=272):
  (iG cv (o1 na nb (t,l.getD i d,())) (gb cv (t,l.getD i d,()) (cS na nb t q (l.take i)).1)=true->DL na nb t q l i d (cS na nb t q (l.take i)).2)/\
  (iG cv (o1 na nb (t,l.getD i d,())) (gb cv (t,l.getD i d,()) (cS na nb t q (l.take i)).1)=false->
   ((!TJ (o2 na nb (t,l.getD i d,())) (t,l.getD i d,()))=true->(iG cv (o2 na nb (t,l.getD i d,())) (gb cv (t,l.getD i d,()) (cS na nb t q (l.take i)).1)=true->DL na nb t q l i d (cS na nb t q (l.take i)).2)/\(iG cv (o2 na nb (t,l.getD i d,())) (gb cv (t,l.getD i d,()) (cS na nb t q (l.take i)).1)=false->
    (iG cv (o3 (t,l.getD i d,())) (gb cv (t,l.getD i d,()) (cS na nb t q (l.take i)).1)=true->DL na nb t q l i d (cS na nb t q (l.take i)).2)/\(iG cv (o3 (t,l.getD i d,())) (gb cv (t,l.getD i d,()) (cS na nb t q (l.take i)).1)=false->dQ ((cS na nb t q (l.take i)).2+1)/\DL na nb t q l i d ((cS na nb t q (l.take i)).2+1))))/\
   ((!TJ (o2 na nb (t,l.getD i d,())) (t,l.getD i d,()))=false->
    (iG cv (o3 (t,l.getD i d,())) (gb cv (t,l.getD i d,()) (cS na nb t q (l.take i)).1)=true->DL na nb t q l i d (cS na nb t q (l.take i)).2)/\(iG cv (o3 (t,l.getD i d,())) (gb cv (t,l.getD i d,()) (cS na nb t q (l.take i)).1)=false->dQ ((cS na nb t q (l.take i)).2+1)/\DL na nb t q l i d ((cS na nb t q (l.take i)).2+1)))):=by
 have b:=NI (na:=na) (nb:=nb) (t:=t) (l.take i) q;have b2:(l.take i).length<=272:=by rw[List.length_take];omega
 have r:dQ ((cS na nb t q (l.take i)).2+1):=by simp only[dQ];omega
 exact⟨λc1=>vM hi hl (st1 c1),λc1=>⟨λc2=>⟨λc3=>vM hi hl (st2 c1 c2 c3),λc3=>⟨λc4=>vM hi hl (st3 c1 (.inr c3) c4),λc4=>⟨r,vM hi hl (st4 c1 (.inr c3) c4)⟩⟩⟩,λc2=>⟨λc4=>vM hi hl (st3 c1 (.inl c2) c4),λc4=>⟨r,vM hi hl (st4 c1 (.inl c2) c4)⟩⟩⟩⟩
theorem Sq:xm Tp 107 cv:=by
 refine XB (key:=110) (elem:=4) (td:=(Tp.underlying 110).getD default) (by kernel_rfl) (by kernel_rfl) (λx y=>by kernel_rfl) (by kernel_rfl) (λb x=>by cases b<;>kernel_rfl) (λx y=>?_) (λx=>?_)
 .have e:eqV Tp 2 110 (mQ cv x) (mQ cv y)=some (TJ x y):=by kernel_rfl
  have e2:=NG (d:=10000) (by omega) e;refine e2.trans (congrArg some ?_);rw[Bool.eq_iff_iff,@decide_eq_true_iff _ (CM cv x y)];obtain⟨t,⟨u,l,s,c⟩,c'⟩:=x;obtain⟨t2,⟨u2,l2,s2,c2⟩,c3⟩:=y;change TJ (t,(u,l,s,()),()) (t2,(u2,l2,s2,()),())=true↔((t,(u,l,s,()),()):gY)=(t2,(u2,l2,s2,()),());simp only[TJ,aA,dU,and_true,ay]
 have e:Instr.sameBits 10000 (mQ cv x) (mQ cv x)=((x.1==x.1)&&((IntKind.i64==IntKind.i64&&x.2.1.1==x.2.1.1)&&((IntKind.i64==IntKind.i64&&x.2.1.2.1==x.2.1.2.1)&&((IntKind.i64==IntKind.i64&&x.2.1.2.2.1==x.2.1.2.2.1)&&true)))):=by kernel_rfl
 rw[e];simp
def F1:fQ:=(T0.eV 56 λa=>dS (D56 a)).eV 33 S60
def D31:List TV->Dn
 |[.agg [.sl (.int .i64) ua .no,.sl (.int .i64) la .no,.val (.int .i64 wa),.sl (.int .i64) qa .no,.sl (.int .i64) a0 .no,.sl (.int .i64) a1 .no,.sl (.int .i64) a2 .no,.sl (.int .i64) a3 .no,.sl (.int .i64) a4 .no,.sl (.int .i64) a5 .no,.sl (.int .i64) a6 .no,.sl (.int .i64) a7 .no],.agg [.sl (.int .i64) ub .no,.sl (.int .i64) lb .no,.val (.int .i64 wb),.sl (.int .i64) qb .no,.sl (.int .i64) b0 .no,.sl (.int .i64) b1 .no,.sl (.int .i64) b2 .no,.sl (.int .i64) b3 .no,.sl (.int .i64) b4 .no,.sl (.int .i64) b5 .no,.sl (.int .i64) b6 .no,.sl (.int .i64) b7 .no]]=>some ([Ok ua la wa qa,Ok ub lb wb qb,a0=ua,a1=la,a2=la.reverse,a3=ua.reverse,a4=ua.reverse,a5=la.reverse,a6=la,a7=ua,b0=ub,b1=lb,b2=lb.reverse,b3=ub.reverse,b4=ub.reverse,b5=lb.reverse,b6=lb,b7=ub],.res (bI (Kc ua la qa ub lb qb wa wb)) [] [],
  [(5,.un 3),(24,.un 4),(15,.dep λte _=>match te.getD 8 .unk with
   |.val (.bool true)=>.ex Nat λi=>.st {sl:=[(32,bI i),(6,bI (cS ub.length ua.length true (cS ua.length ub.length false ([],0) (aC ua la qa ub lb qb (wa+wb))) ((aC ub lb qb ua la qa (wb+wa)).take i)).2)],mp:=[(2,⟨cv,(cS ub.length ua.length true (cS ua.length ub.length false ([],0) (aC ua la qa ub lb qb (wa+wb))) ((aC ub lb qb ua la qa (wb+wa)).take i)).1⟩)],en:=[i<=(aC ub lb qb ua la qa (wb+wa)).length],m:=(aC ub lb qb ua la qa (wb+wa)).length-i}
   |_=>.ex Nat λi=>.st {sl:=[(32,bI i),(6,bI (cS ua.length ub.length false ([],0) ((aC ua la qa ub lb qb (wa+wb)).take i)).2)],mp:=[(2,⟨cv,(cS ua.length ub.length false ([],0) ((aC ua la qa ub lb qb (wa+wb)).take i)).1⟩)],en:=[i<=(aC ua la qa ub lb qb (wa+wb)).length],m:=(aC ua la qa ub lb qb (wa+wb)).length-i})])
 |_=>none
def v31.q1 (p0 p1:List cn.den)(p2:Int)(p3:List cn.den)(p4:Prop):Prop:=p0=p0/\p1=p1/\p2=p2/\p3=p3/\p0=p0/\p1=p1/\p1.reverse=p1.reverse/\p0.reverse=p0.reverse/\p0.reverse=p0.reverse/\p1.reverse=p1.reverse/\p1=p1/\p0=p0/\p4
def v31.q2 (p0 p1:List cn.den)(p2:Int)(p3 p4 p5:List cn.den)(p6:Int)(p7:List cn.den)(p8:Prop):Prop:=v31.q1 p0 p1 p2 p3 (v31.q1 p4 p5 p6 p7 p8)
def v31.q3 (p0:Nat)(p1 p2 p3 p4 p5 p6:List cn.den)(p7 p8 p9:Int):Prop:=dQ ((↑p0:Int)+1)/\∃(a:Nat),(0:Int)=0/\p9=(cS (↑p1.length:Int) (↑p2.length:Int) true (cS (↑p2.length:Int) (↑p1.length:Int) false ([],(0:Int)) (aC p2 p3 p4 p1 p5 p6 (p7+p8))) (List.take a (aC p1 p5 p6 p2 p3 p4 (p8+p7)))).2/\true=true/\[false,true]=[false,true]/\(2:Int)=2/\(1:Int)=1/\true=true/\[false,true]=[false,true]/\1=1/\0=0/\true=true/\v31.q2 p2 p3 p7 p4 p1 p5 p8 p6 (true=true/\v31.q2 p1 p5 p8 p6 p2 p3 p7 p4 (v31.q2 p1 p5 p8 p6 p2 p3 p7 p4 (aC p1 p5 p6 p2 p3 p4 (p8+p7)=aC p1 p5 p6 p2 p3 p4 (p8+p7)/\(↑(aC p1 p5 p6 p2 p3 p4 (p8+p7)).length:Int)=(↑(aC p1 p5 p6 p2 p3 p4 (p8+p7)).length:Int)/\(↑p0:Int)+1=(↑a:Int)/\(1:Int)=1/\v31.q2 p2 p3 p7 p4 p1 p5 p8 p6 (gb cv (true,(((aC p1 p5 p6 p2 p3 p4 (p8+p7)).getD p0 (0,0,0,())).1,((aC p1 p5 p6 p2 p3 p4 (p8+p7)).getD p0 (0,0,0,())).2.1,((aC p1 p5 p6 p2 p3 p4 (p8+p7)).getD p0 (0,0,0,())).2.2.1,()),()) (cS (↑p1.length:Int) (↑p2.length:Int) true (cS (↑p2.length:Int) (↑p1.length:Int) false ([],(0:Int)) (aC p2 p3 p4 p1 p5 p6 (p7+p8))) (List.take p0 (aC p1 p5 p6 p2 p3 p4 (p8+p7)))).1=(cS (↑p1.length:Int) (↑p2.length:Int) true (cS (↑p2.length:Int) (↑p1.length:Int) false ([],(0:Int)) (aC p2 p3 p4 p1 p5 p6 (p7+p8))) (List.take a (aC p1 p5 p6 p2 p3 p4 (p8+p7)))).1/\v31.q2 p2 p3 p7 p4 p1 p5 p8 p6 (v31.q2 p1 p5 p8 p6 p2 p3 p7 p4 (a<=(aC p1 p5 p6 p2 p3 p4 (p8+p7)).length/\((aC p1 p5 p6 p2 p3 p4 (p8+p7)).length-a)<((aC p1 p5 p6 p2 p3 p4 (p8+p7)).length-p0)))))))
def v31.q4 (p0:Nat)(p1 p2 p3 p4 p5 p6:List cn.den)(p7 p8 p9:Int):Prop:=dQ ((↑p0:Int)+1)/\∃(a:Nat),(0:Int)=0/\p9=(cS (↑p1.length:Int) (↑p2.length:Int) false ([],(0:Int)) (List.take a (aC p1 p3 p4 p2 p5 p6 (p7+p8)))).2/\false=false/\[false,true]=[false,true]/\(2:Int)=2/\(0:Int)=0/\true=true/\[false,true]=[false,true]/\0=0/\0=0/\false=false/\v31.q2 p1 p3 p7 p4 p2 p5 p8 p6 (false=false/\v31.q2 p1 p3 p7 p4 p2 p5 p8 p6 (aC p1 p3 p4 p2 p5 p6 (p7+p8)=aC p1 p3 p4 p2 p5 p6 (p7+p8)/\(↑(aC p1 p3 p4 p2 p5 p6 (p7+p8)).length:Int)=(↑(aC p1 p3 p4 p2 p5 p6 (p7+p8)).length:Int)/\(↑p0:Int)+1=(↑a:Int)/\v31.q2 p1 p3 p7 p4 p2 p5 p8 p6 (gb cv (false,(((aC p1 p3 p4 p2 p5 p6 (p7+p8)).getD p0 (0,0,0,())).1,((aC p1 p3 p4 p2 p5 p6 (p7+p8)).getD p0 (0,0,0,())).2.1,((aC p1 p3 p4 p2 p5 p6 (p7+p8)).getD p0 (0,0,0,())).2.2.1,()),()) (cS (↑p1.length:Int) (↑p2.length:Int) false ([],(0:Int)) (List.take p0 (aC p1 p3 p4 p2 p5 p6 (p7+p8)))).1=(cS (↑p1.length:Int) (↑p2.length:Int) false ([],(0:Int)) (List.take a (aC p1 p3 p4 p2 p5 p6 (p7+p8)))).1/\v31.q2 p1 p3 p7 p4 p2 p5 p8 p6 (a<=(aC p1 p3 p4 p2 p5 p6 (p7+p8)).length/\((aC p1 p3 p4 p2 p5 p6 (p7+p8)).length-a)<((aC p1 p3 p4 p2 p5 p6 (p7+p8)).length-p0)))))
def v31.q5 (p0 p1 p2 p3 p4 p5:List cn.den)(p6 p7:Int)(p8:Nat):Prop:=dQ (2:Int)/\xm Tp 107 cv/\aO (iG cv (!true,(jh ((aC p0 p1 p2 p3 p4 p5 (p6+p7)).getD p8 (0,0,0,())).2.1 (3:Int),jh ((aC p0 p1 p2 p3 p4 p5 (p6+p7)).getD p8 (0,0,0,())).1 (3:Int),-((aC p0 p1 p2 p3 p4 p5 (p6+p7)).getD p8 (0,0,0,())).2.2.1,()),()) (gb cv (true,(((aC p0 p1 p2 p3 p4 p5 (p6+p7)).getD p8 (0,0,0,())).1,((aC p0 p1 p2 p3 p4 p5 (p6+p7)).getD p8 (0,0,0,())).2.1,((aC p0 p1 p2 p3 p4 p5 (p6+p7)).getD p8 (0,0,0,())).2.2.1,()),()) (cS (↑p0.length:Int) (↑p3.length:Int) true (cS (↑p3.length:Int) (↑p0.length:Int) false ([],(0:Int)) (aC p3 p4 p5 p0 p1 p2 (p7+p6))) (List.take p8 (aC p0 p1 p2 p3 p4 p5 (p6+p7)))).1)) (v31.q3 p8 p0 p3 p4 p5 p1 p2 p7 p6 (cS (↑p0.length:Int) (↑p3.length:Int) true (cS (↑p3.length:Int) (↑p0.length:Int) false ([],(0:Int)) (aC p3 p4 p5 p0 p1 p2 (p7+p6))) (List.take p8 (aC p0 p1 p2 p3 p4 p5 (p6+p7)))).2) (dQ (3:Int)/\dQ ((cS (↑p0.length:Int) (↑p3.length:Int) true (cS (↑p3.length:Int) (↑p0.length:Int) false ([],(0:Int)) (aC p3 p4 p5 p0 p1 p2 (p7+p6))) (List.take p8 (aC p0 p1 p2 p3 p4 p5 (p6+p7)))).2+1)/\v31.q3 p8 p0 p3 p4 p5 p1 p2 p7 p6 ((cS (↑p0.length:Int) (↑p3.length:Int) true (cS (↑p3.length:Int) (↑p0.length:Int) false ([],(0:Int)) (aC p3 p4 p5 p0 p1 p2 (p7+p6))) (List.take p8 (aC p0 p1 p2 p3 p4 p5 (p6+p7)))).2+1))
def v31.q6 (p0 p1 p2 p3 p4 p5:List cn.den)(p6 p7:Int)(p8:Nat):Prop:=dQ (2:Int)/\xm Tp 107 cv/\aO (iG cv (!false,(jh ((aC p0 p1 p2 p3 p4 p5 (p6+p7)).getD p8 (0,0,0,())).2.1 (3:Int),jh ((aC p0 p1 p2 p3 p4 p5 (p6+p7)).getD p8 (0,0,0,())).1 (3:Int),-((aC p0 p1 p2 p3 p4 p5 (p6+p7)).getD p8 (0,0,0,())).2.2.1,()),()) (gb cv (false,(((aC p0 p1 p2 p3 p4 p5 (p6+p7)).getD p8 (0,0,0,())).1,((aC p0 p1 p2 p3 p4 p5 (p6+p7)).getD p8 (0,0,0,())).2.1,((aC p0 p1 p2 p3 p4 p5 (p6+p7)).getD p8 (0,0,0,())).2.2.1,()),()) (cS (↑p0.length:Int) (↑p3.length:Int) false ([],(0:Int)) (List.take p8 (aC p0 p1 p2 p3 p4 p5 (p6+p7)))).1)) (v31.q4 p8 p0 p3 p1 p2 p4 p5 p6 p7 (cS (↑p0.length:Int) (↑p3.length:Int) false ([],(0:Int)) (List.take p8 (aC p0 p1 p2 p3 p4 p5 (p6+p7)))).2) (dQ (3:Int)/\dQ ((cS (↑p0.length:Int) (↑p3.length:Int) false ([],(0:Int)) (List.take p8 (aC p0 p1 p2 p3 p4 p5 (p6+p7)))).2+1)/\v31.q4 p8 p0 p3 p1 p2 p4 p5 p6 p7 ((cS (↑p0.length:Int) (↑p3.length:Int) false ([],(0:Int)) (List.take p8 (aC p0 p1 p2 p3 p4 p5 (p6+p7)))).2+1))
def v31.q7 (p0 p1:List cn.den)(p2:Prop):Prop:=p0=p0/\p1=p1/\p1.reverse=p1.reverse/\p0.reverse=p0.reverse/\p0.reverse=p0.reverse/\p1.reverse=p1.reverse/\p1=p1/\p0=p0/\p2
def v31.q8 (p0:Nat)(p1 p2 p3 p4 p5 p6:List cn.den)(p7 p8:Int)(p9:Prop):Prop:=(0<=(↑p0:Int)/\(↑p0:Int)<(↑(aC p1 p2 p3 p4 p5 p6 (p7+p8)).length:Int))/\xm Tp 107 cv/\(-10000:Int)<=((aC p1 p2 p3 p4 p5 p6 (p7+p8)).getD p0 (0,0,0,())).2.2.1/\((aC p1 p2 p3 p4 p5 p6 (p7+p8)).getD p0 (0,0,0,())).2.2.1<=10000/\0<=(↑p1.length:Int)/\(↑p1.length:Int)<=1000/\0<=(↑p4.length:Int)/\(↑p4.length:Int)<=1000/\xm Tp 107 cv/\p9
theorem v31:VI F1 Try.f31 [none,none] D31:=by
 refine gz λa=>?_;unfold D31;split
 rotate_left
 .trivial
 rename_i ua la wa qa a0 a1 a2 a3 a4 a5 a6 a7 ub lb wb qb b0 b1 b2 b3 b4 b5 b6 b7;intro hp;obtain⟨h1,h2,rfl,rfl,rfl,rfl,rfl,rfl,rfl,rfl,rfl,rfl,rfl,rfl,rfl,rfl,rfl,rfl,-⟩:=hp;refine nS (A:=True/\((0:Int)<=0/\(0:Int)<2)/\Ok a7 a6 wa qa/\Ok b7 b6 wb qb/\v31.q7 a7 a6 (v31.q7 b7 b6 ((∃(a:Nat),0=(cS (↑a7.length:Int) (↑b7.length:Int) false ([],(0:Int)) (List.take a (aC a7 a6 qa b7 b6 qb (wa+wb)))).2/\0=(↑a:Int)/\[]=(cS (↑a7.length:Int) (↑b7.length:Int) false ([],(0:Int)) (List.take a (aC a7 a6 qa b7 b6 qb (wa+wb)))).1/\a<=(aC a7 a6 qa b7 b6 qb (wa+wb)).length/\((aC a7 a6 qa b7 b6 qb (wa+wb)).length-a)<1000000)/\∀(a:Nat),a<=(aC a7 a6 qa b7 b6 qb (wa+wb)).length->aO (decide ((↑a:Int)<(↑(aC a7 a6 qa b7 b6 qb (wa+wb)).length:Int))) (v31.q8 a a7 a6 qa b7 b6 qb wa wb (aO (iG cv (!false,(jh ((aC a7 a6 qa b7 b6 qb (wa+wb)).getD a (0,0,0,())).2.1 (1:Int),jh ((aC a7 a6 qa b7 b6 qb (wa+wb)).getD a (0,0,0,())).1 (1:Int),((aC a7 a6 qa b7 b6 qb (wa+wb)).getD a (0,0,0,())).2.2.1+(↑b7.length:Int)-(↑a7.length:Int),()),()) (gb cv (false,(((aC a7 a6 qa b7 b6 qb (wa+wb)).getD a (0,0,0,())).1,((aC a7 a6 qa b7 b6 qb (wa+wb)).getD a (0,0,0,())).2.1,((aC a7 a6 qa b7 b6 qb (wa+wb)).getD a (0,0,0,())).2.2.1,()),()) (cS (↑a7.length:Int) (↑b7.length:Int) false ([],(0:Int)) (List.take a (aC a7 a6 qa b7 b6 qb (wa+wb)))).1)) (v31.q4 a a7 b7 a6 qa b6 qb wa wb (cS (↑a7.length:Int) (↑b7.length:Int) false ([],(0:Int)) (List.take a (aC a7 a6 qa b7 b6 qb (wa+wb)))).2) (dQ (1:Int)/\aO (!(false==false&&(jh ((aC a7 a6 qa b7 b6 qb (wa+wb)).getD a (0,0,0,())).1 (2:Int)==((aC a7 a6 qa b7 b6 qb (wa+wb)).getD a (0,0,0,())).1&&(jh ((aC a7 a6 qa b7 b6 qb (wa+wb)).getD a (0,0,0,())).2.1 (2:Int)==((aC a7 a6 qa b7 b6 qb (wa+wb)).getD a (0,0,0,())).2.1&&((↑a7.length:Int)-(↑b7.length:Int)-((aC a7 a6 qa b7 b6 qb (wa+wb)).getD a (0,0,0,())).2.2.1==((aC a7 a6 qa b7 b6 qb (wa+wb)).getD a (0,0,0,())).2.2.1&&true))&&true))) (xm Tp 107 cv/\aO (iG cv (false,(jh ((aC a7 a6 qa b7 b6 qb (wa+wb)).getD a (0,0,0,())).1 (2:Int),jh ((aC a7 a6 qa b7 b6 qb (wa+wb)).getD a (0,0,0,())).2.1 (2:Int),(↑a7.length:Int)-(↑b7.length:Int)-((aC a7 a6 qa b7 b6 qb (wa+wb)).getD a (0,0,0,())).2.2.1,()),()) (gb cv (false,(((aC a7 a6 qa b7 b6 qb (wa+wb)).getD a (0,0,0,())).1,((aC a7 a6 qa b7 b6 qb (wa+wb)).getD a (0,0,0,())).2.1,((aC a7 a6 qa b7 b6 qb (wa+wb)).getD a (0,0,0,())).2.2.1,()),()) (cS (↑a7.length:Int) (↑b7.length:Int) false ([],(0:Int)) (List.take a (aC a7 a6 qa b7 b6 qb (wa+wb)))).1)) (v31.q4 a a7 b7 a6 qa b6 qb wa wb (cS (↑a7.length:Int) (↑b7.length:Int) false ([],(0:Int)) (List.take a (aC a7 a6 qa b7 b6 qb (wa+wb)))).2) (v31.q6 a7 a6 qa b7 b6 qb wa wb a)) (v31.q6 a7 a6 qa b7 b6 qb wa wb a)))) (dQ (1:Int)/\((0:Int)<=1/\(1:Int)<2)/\Ok b7 b6 wb qb/\Ok a7 a6 wa qa/\v31.q7 b7 b6 (v31.q7 a7 a6 ((∃(x:Nat),(cS (↑a7.length:Int) (↑b7.length:Int) false ([],(0:Int)) (List.take a (aC a7 a6 qa b7 b6 qb (wa+wb)))).2=(cS (↑b7.length:Int) (↑a7.length:Int) true (cS (↑a7.length:Int) (↑b7.length:Int) false ([],(0:Int)) (aC a7 a6 qa b7 b6 qb (wa+wb))) (List.take x (aC b7 b6 qb a7 a6 qa (wb+wa)))).2/\0=(↑x:Int)/\(cS (↑a7.length:Int) (↑b7.length:Int) false ([],(0:Int)) (List.take a (aC a7 a6 qa b7 b6 qb (wa+wb)))).1=(cS (↑b7.length:Int) (↑a7.length:Int) true (cS (↑a7.length:Int) (↑b7.length:Int) false ([],(0:Int)) (aC a7 a6 qa b7 b6 qb (wa+wb))) (List.take x (aC b7 b6 qb a7 a6 qa (wb+wa)))).1/\x<=(aC b7 b6 qb a7 a6 qa (wb+wa)).length/\((aC b7 b6 qb a7 a6 qa (wb+wa)).length-x)<1000000)/\∀(a:Nat),a<=(aC b7 b6 qb a7 a6 qa (wb+wa)).length->aO (decide ((↑a:Int)<(↑(aC b7 b6 qb a7 a6 qa (wb+wa)).length:Int))) (v31.q8 a b7 b6 qb a7 a6 qa wb wa (aO (iG cv (!true,(jh ((aC b7 b6 qb a7 a6 qa (wb+wa)).getD a (0,0,0,())).2.1 (1:Int),jh ((aC b7 b6 qb a7 a6 qa (wb+wa)).getD a (0,0,0,())).1 (1:Int),((aC b7 b6 qb a7 a6 qa (wb+wa)).getD a (0,0,0,())).2.2.1+(↑a7.length:Int)-(↑b7.length:Int),()),()) (gb cv (true,(((aC b7 b6 qb a7 a6 qa (wb+wa)).getD a (0,0,0,())).1,((aC b7 b6 qb a7 a6 qa (wb+wa)).getD a (0,0,0,())).2.1,((aC b7 b6 qb a7 a6 qa (wb+wa)).getD a (0,0,0,())).2.2.1,()),()) (cS (↑b7.length:Int) (↑a7.length:Int) true (cS (↑a7.length:Int) (↑b7.length:Int) false ([],(0:Int)) (aC a7 a6 qa b7 b6 qb (wa+wb))) (List.take a (aC b7 b6 qb a7 a6 qa (wb+wa)))).1)) (v31.q3 a b7 a7 a6 qa b6 qb wa wb (cS (↑b7.length:Int) (↑a7.length:Int) true (cS (↑a7.length:Int) (↑b7.length:Int) false ([],(0:Int)) (aC a7 a6 qa b7 b6 qb (wa+wb))) (List.take a (aC b7 b6 qb a7 a6 qa (wb+wa)))).2) (dQ (1:Int)/\aO (!(true==true&&(jh ((aC b7 b6 qb a7 a6 qa (wb+wa)).getD a (0,0,0,())).1 (2:Int)==((aC b7 b6 qb a7 a6 qa (wb+wa)).getD a (0,0,0,())).1&&(jh ((aC b7 b6 qb a7 a6 qa (wb+wa)).getD a (0,0,0,())).2.1 (2:Int)==((aC b7 b6 qb a7 a6 qa (wb+wa)).getD a (0,0,0,())).2.1&&((↑b7.length:Int)-(↑a7.length:Int)-((aC b7 b6 qb a7 a6 qa (wb+wa)).getD a (0,0,0,())).2.2.1==((aC b7 b6 qb a7 a6 qa (wb+wa)).getD a (0,0,0,())).2.2.1&&true))&&true))) (xm Tp 107 cv/\aO (iG cv (true,(jh ((aC b7 b6 qb a7 a6 qa (wb+wa)).getD a (0,0,0,())).1 (2:Int),jh ((aC b7 b6 qb a7 a6 qa (wb+wa)).getD a (0,0,0,())).2.1 (2:Int),(↑b7.length:Int)-(↑a7.length:Int)-((aC b7 b6 qb a7 a6 qa (wb+wa)).getD a (0,0,0,())).2.2.1,()),()) (gb cv (true,(((aC b7 b6 qb a7 a6 qa (wb+wa)).getD a (0,0,0,())).1,((aC b7 b6 qb a7 a6 qa (wb+wa)).getD a (0,0,0,())).2.1,((aC b7 b6 qb a7 a6 qa (wb+wa)).getD a (0,0,0,())).2.2.1,()),()) (cS (↑b7.length:Int) (↑a7.length:Int) true (cS (↑a7.length:Int) (↑b7.length:Int) false ([],(0:Int)) (aC a7 a6 qa b7 b6 qb (wa+wb))) (List.take a (aC b7 b6 qb a7 a6 qa (wb+wa)))).1)) (v31.q3 a b7 a7 a6 qa b6 qb wa wb (cS (↑b7.length:Int) (↑a7.length:Int) true (cS (↑a7.length:Int) (↑b7.length:Int) false ([],(0:Int)) (aC a7 a6 qa b7 b6 qb (wa+wb))) (List.take a (aC b7 b6 qb a7 a6 qa (wb+wa)))).2) (v31.q5 b7 b6 qb a7 a6 qa wb wa a)) (v31.q5 b7 b6 qb a7 a6 qa wb wa a)))) (dQ (2:Int)/\(cS (↑b7.length:Int) (↑a7.length:Int) true (cS (↑a7.length:Int) (↑b7.length:Int) false ([],(0:Int)) (aC a7 a6 qa b7 b6 qb (wa+wb))) (List.take a (aC b7 b6 qb a7 a6 qa (wb+wa)))).2=Kc a7 a6 qa b7 b6 qb wa wb/\True))))))) (by kernel_rfl) ?_;unfold v31.q8 v31.q7 v31.q6 v31.q5 v31.q4 v31.q3 v31.q2 v31.q1;have m0:=Sq;have r1:dQ 1:=by simp only[dQ];omega
 have r2:dQ 2:=by simp only[dQ];omega
 have r3:dQ 3:=by simp only[dQ];omega
 have l1:=Ec (w:=wa+wb) h1 h2;have l2:=Ec (w:=wb+wa) h2 h1;have n1:=h1.n8;have n2:=h2.n8;simp only[dz,eq_self,true_and,and_true,eq_true m0,eq_true r1,eq_true r2,eq_true r3];simp only[lB];refine⟨⟨by omega,by omega⟩,h1,h2,⟨0,rfl,rfl,rfl,by omega,by first|omega|(dsimp only;omega)⟩,λa ha=>⟨λhl=>?_,λhl=>?_⟩⟩
 .have iU:a<(aC a7 a6 qa b7 b6 qb (wa+wb)).length:=by omega
  have hs:=Pw (d:=(0,0,0,())) h1 h2 iU;exact⟨⟨by omega,by omega⟩,hs.1,hs.2,by omega,by omega,by omega,by omega,K5 iU l1 (by decide) (by decide)⟩
 have iU:¬a<(aC a7 a6 qa b7 b6 qb (wa+wb)).length:=by omega
 have e:=LZ (na:=(a7.length:Int)) (nb:=(b7.length:Int)) (t:=false) (q:=([],0)) iU ha;have b:=NI (na:=(a7.length:Int)) (nb:=(b7.length:Int)) (t:=false) (aC a7 a6 qa b7 b6 qb (wa+wb)) ([],0);simp only at b;refine⟨⟨by omega,by omega⟩,h2,h1,⟨0,by rw[e];rfl,rfl,by rw[e];rfl,by omega,by first|omega|(dsimp only;omega)⟩,λa ha=>⟨λhl=>?_,λhl=>?_⟩⟩
 .have iU:a<(aC b7 b6 qb a7 a6 qa (wb+wa)).length:=by omega
  have hs:=Pw (d:=(0,0,0,())) h2 h1 iU;exact⟨⟨by omega,by omega⟩,hs.1,hs.2,by omega,by omega,by omega,by omega,K5 iU l2 (by omega) (by omega)⟩
 have iU:¬a<(aC b7 b6 qb a7 a6 qa (wb+wa)).length:=by omega
 rw[LZ iU ha];rfl
end Go.Tv
