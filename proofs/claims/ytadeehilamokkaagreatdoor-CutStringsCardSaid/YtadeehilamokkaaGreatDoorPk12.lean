import Derived.Test.YtadeehilamokkaaGreatDoorPk11
set_option maxHeartbeats 1000000
set_option maxRecDepth 100000
namespace Go.Tv
open Go Go.Di Go.Proofs
abbrev Kz(v:Int->TV)(f:Int->List Prop):tG:=.ex Int λk=>.ex cj λr=>.ex Int λz=>.res (v k) (FQ r z) (f k)
def D81:cp->cp->Dn
 |[.ptr 0 0],[.sl (.int .i64) _ .no,.val (.int .u64 z)]=>some ([],Kz (λk=>.val (.int .u64 k)) λk=>[0<=k,k<4294967296],[(2,.ex Int λk=>.ex cj λr=>.st {sl:=[(3,.val (.int .u64 k))],pl:=[(0,FQ r z)]})])
 |_,_=>none
theorem v81:VC T0 Tryz.f79 [some (.int .u64)] [some fH,some (.int .u64)] D81:=by
 refine yq λa cs=>?_;unfold D81;split
 rotate_left
 trivial;rename_i r z;intro hp;refine Ah (A:=bM (decide ((↑r.length:Int)>0)) (((0:Int)<=0/\0<(↑r.length:Int))/\((0:Int)<=1/\1<=(↑r.length:Int))/\∃(a:Int),∃(x:cj),(0:Int)=0/\IntKind.u64.wrap (r.getD 0 0)=a/\List.drop 1 r=x/\z=z/\True) (∃(a:Int),∃(x:cj),(0:Int)=0/\0=a/\r=x/\z=z/\True)/\∀(a:Int)(x:cj),∃(y:Int),∃(u:cj),∃(v:Int),(IntKind.u64.wrap (IntKind.u64.wrap (↑(BitVec.ofInt 64 (IntKind.u64.wrap (↑(BitVec.ofInt 64 (IntKind.u64.wrap (IntKind.u64.wrap (IntKind.u64.wrap (z+a)+6364136223846793005)*15074714826142052245))^^^BitVec.ofInt 64 ((IntKind.u64.wrap (IntKind.u64.wrap (IntKind.u64.wrap (z+a)+6364136223846793005)*15074714826142052245)).fdiv (536870912:Int))).toNat:Int))^^^BitVec.ofInt 64 ((IntKind.u64.wrap (↑(BitVec.ofInt 64 (IntKind.u64.wrap (IntKind.u64.wrap (IntKind.u64.wrap (z+a)+6364136223846793005)*15074714826142052245))^^^BitVec.ofInt 64 ((IntKind.u64.wrap (IntKind.u64.wrap (IntKind.u64.wrap (z+a)+6364136223846793005)*15074714826142052245)).fdiv (536870912:Int))).toNat:Int)).fdiv (8589934592:Int))).toNat:Int)*18397679294719823053)).fdiv 4294967296=y/\x=u/\IntKind.u64.wrap (↑(BitVec.ofInt 64 (IntKind.u64.wrap (IntKind.u64.wrap (IntKind.u64.wrap (z+a)+6364136223846793005)*15074714826142052245))^^^BitVec.ofInt 64 ((IntKind.u64.wrap (IntKind.u64.wrap (IntKind.u64.wrap (z+a)+6364136223846793005)*15074714826142052245)).fdiv (536870912:Int))).toNat:Int)=v/\0<=y/\y<4294967296/\True) (by kernel_rfl) ?_;simp only[eS,lP,j9,j8,og,jC,and_true,true_and,eq_self];refine⟨⟨λh=>⟨ab,ab,_,_,rfl,rfl⟩,λh=>⟨_,_,rfl,rfl⟩⟩,λk r1=>⟨_,_,_,rfl,rfl,rfl,(ade rfl).1,(ade rfl).2⟩⟩
def D11:cp->Dn
 |[.sl (.int .i64) l .no]=>some ([],.res .unk (FQ l 1) [],[])
 |_=>none
theorem v11:VN T0 Tryz.f9 [some fH,some (.int .u64)] D11:=by
 refine agL λa=>?_;unfold D11;split
 rotate_left
 trivial;rename_i l;intro hp;refine Ah (A:=l=l/\(1:Int)=1/\True) (by kernel_rfl) ?_;exact⟨rfl,rfl,trivial⟩
def R1:ij:=(T0.CB 79 λa c=>dS (D81 a c)).aaH 9 λa=>dS (D11 a)
def D46:cp->cp->Dn
 |[.ptr 0 0,.val (.int .i64 m)],[.sl (.int .i64) _ .no,.val (.int .u64 _)]=>some ([m<=1000,-10000<=m],Kz jE λk=>[0<=k,k<=m\/k=0],[])
 |_,_=>none
theorem v46:VC R1 Tryz.f41 [some kP] [some fH,some (.int .u64)] D46:=by
 refine yq λa cs=>?_;unfold D46;split
 rotate_left
 trivial;rename_i m r z;intro hp;obtain⟨h1,h2,-⟩:=hp;refine Ah (A:=bM (decide (m<=0)) (∃(a:Int),∃(y:cj),∃(u:Int),0=a/\r=y/\z=u/\0<=a/\(a<=m\/a=0)/\True) (∀(a:Int)(y:cj)(u:Int),0<=a->a<4294967296->jC (m+1)/\∃(x:Int),∃(v:cj),∃(w:Int),IntKind.i64.wrap ((IntKind.u64.wrap (a*IntKind.u64.wrap (m+1))).fdiv (4294967296:Int))=x/\y=v/\u=w/\0<=x/\(x<=m\/x=0)/\True)) (by kernel_rfl) ?_;simp only[eS,lP,j9,j8,og,jC,and_true,true_and,eq_self];exact⟨λh=>⟨0,_,_,rfl,rfl,rfl,ab,ab⟩,λh k r1 z1 h3 h4=>⟨ab,_,_,_,rfl,rfl,rfl,(acF h1 ab h3 h4).1,(acF h1 ab h3 h4).2⟩⟩
def R2:ij:=R1.CB 41 λa c=>dS (D46 a c)
def D19:cp->cp->Dn
 |[.ptr 0 0,.val (.int .i64 lo),.val (.int .i64 hi)],[.sl (.int .i64) _ .no,.val (.int .u64 _)]=>some ([-1000<=lo,lo<=1000,-1000<=hi,hi<=1000+lo,hi<=5000],Kz jE λk=>[lo<=k,k<=hi\/k=lo],[])
 |_,_=>none
theorem v19:VC R2 Tryz.f81 [some kP] [some fH,some (.int .u64)] D19:=by
 refine yq λa cs=>?_;unfold D19;split
 rotate_left
 trivial;rename_i lo hi r z;intro hp;obtain⟨h1,h2,h3,h4,h5,-⟩:=hp;refine Ah (A:=jC (hi-lo)/\hi-lo<=1000/\(-10000:Int)<=hi-lo/\∀(a:Int)(y:cj)(z:Int),0<=a->a<=hi-lo\/a=0->jC (lo+a)/\∃(x:Int),∃(u:cj),∃(v:Int),lo+a=x/\y=u/\z=v/\lo<=x/\(x<=hi\/x=lo)/\True) (by kernel_rfl) ?_;simp only[eS,lP,j9,j8,og,jC,and_true,true_and,eq_self];exact⟨ab,ab,ab,λk r1 z1 h6 h7=>⟨ab,_,_,_,rfl,rfl,rfl,ab,ab⟩⟩
def D27:cp->cp->Dn
 |[.ptr 0 0,.val (.int .i64 m)],[.sl (.int .i64) _ .no,.val (.int .u64 _)]=>some ([m<=1000,0<=m],.ex Bool λb=>Kz (λ_=>tQ b) λ_=>[],[])
 |_,_=>none
theorem v27:VC R2 Tryz.f42 [some .bool] [some fH,some (.int .u64)] D27:=by
 refine yq λa cs=>?_;unfold D27;split
 rotate_left
 trivial;rename_i m r z;intro hp;obtain⟨h1,h2,-⟩:=hp;refine Ah (A:=jC (m-1)/\m-1<=1000/\(-10000:Int)<=m-1/\∀(a:Int)(x:cj)(y:Int),0<=a->a<=m-1\/a=0->∃(z:Bool),∃(w:Int),∃(u:cj),∃(v:Int),(a==IntKind.i64.wrap (m.tdiv (2:Int)))=z/\x=u/\y=v/\True) (by kernel_rfl) ?_;simp only[eS,lP,j9,j8,og,jC,and_true,true_and,eq_self];exact⟨ab,ab,ab,λk r1 z1 _ _=>⟨_,0,_,_,rfl,rfl,rfl⟩⟩
def D45:cp->cp->Dn
 |[.ptr 0 0,.sl (.int .i64) l .no],[.sl (.int .i64) _ .no,.val (.int .u64 _)]=>some ([0<l.length,l.length<=1000],Kz jE λk=>[k∈l],[])
 |_,_=>none
theorem v45:VC R2 Tryz.f82 [some kP] [some fH,some (.int .u64)] D45:=by
 refine yq λa cs=>?_;unfold D45;split
 rotate_left
 trivial;rename_i l r z;intro hp;obtain⟨h1,h2,-⟩:=hp;refine Ah (A:=jC ((↑l.length:Int)-1)/\(↑l.length:Int)-1<=1000/\(-10000:Int)<=(↑l.length:Int)-1/\∀(a:Int)(y:cj)(z:Int),0<=a->a<=(↑l.length:Int)-1\/a=0->(0<=a/\a<(↑l.length:Int))/\∃(x:Int),∃(u:cj),∃(v:Int),l.getD a.toNat 0=x/\y=u/\z=v/\x∈l/\True) (by kernel_rfl) ?_;simp only[eS,lP,j9,j8,og,jC,and_true,true_and,eq_self];exact⟨ab,ab,ab,λk r1 z1 h3 h4=>⟨ab,_,_,_,rfl,rfl,rfl,uB ab⟩⟩
def R3:ij:=((R2.CB 81 λa c=>dS (D19 a c)).CB 42 λa c=>dS (D27 a c)).CB 82 λa c=>dS (D45 a c)
def D44:cp->cp->Dn
 |[.ptr 0 0,.val (.int .i64 c)],[.sl (.int .i64) _ .no,.val (.int .u64 _)]=>some ([0<=c,c<=100],.ex cj λo=>.ex cj λr=>.ex Int λz=>.res (.sl kP o .no) (FQ r z) [(o.length:Int)=c,MU o],
  [(5,.ex Nat λi=>.ex cj λo=>.ex cj λr=>.ex Int λz=>.st {sl:=[(6,.sl kP o (.oS 1)),(7,jE i)],pl:=[(0,FQ r z)],own:=[(3,1)],gV:=[(i:Int)<=c,o.length=i,MU o],m:=c.toNat-i})])
 |_,_=>none
theorem v44:VC R3 Tryz.f80 [some fH] [some fH,some (.int .u64)] D44:=by
 refine yq λa cs=>?_;unfold D44;split
 rotate_left
 trivial;rename_i c r z;intro hp;obtain⟨h1,h2,-⟩:=hp;refine Ah (A:=(7:Int)<=1000/\(-10000:Int)<=7/\∀(a:Int)(x:cj)(w:Int),0<=a->a<=7\/a=0->0<3/\3<=1000/\∀(u:Int)(i:cj)(h:Int),u∈[(0:Int),(2:Int),a]->(∃(a:Nat),∃(y:cj),∃(m:cj),∃(r:Int),[]=y/\0=(↑a:Int)/\i=m/\h=r/\(↑a:Int)<=c/\y.length=a/\MU y/\c.toNat-a<1000000)/\∀(a:Nat)(y m:cj)(r:Int),(↑a:Int)<=c->y.length=a->MU y->bM (decide ((↑a:Int)<c)) (0<4/\4<=1000/\∀(z:Int)(s:cj)(n:Int),z∈[(0:Int),(0:Int),(1:Int),(2:Int)]->jC (u+z)/\y.length+1<=1000000000/\jC ((↑a:Int)+1)/\∃(v:Nat),∃(t:cj),∃(k:cj),∃(j:Int),c=c/\Nj kP.den/\u=u/\y++[u+z]=t/\(↑a:Int)+1=(↑v:Int)/\s=k/\n=j/\(↑v:Int)<=c/\t.length=v/\MU t/\c.toNat-v<c.toNat-a) (∃(a:cj),∃(z:cj),∃(s:Int),y=a/\m=z/\r=s/\(↑a.length:Int)=c/\MU a/\True)) (by kernel_rfl) ?_;simp only[eS,lP,j9,j8,og,jC,and_true,true_and,eq_self];refine⟨ab,ab,λk1 r1 z1 h3 h4=>⟨ab,ab,λk2 r2 z2 h5=>?_⟩⟩;have h6:0<=k2/\k2<=7:=by simp at h5;omega
 refine⟨⟨0,[],r2,z2,rfl,rfl,rfl,rfl,h1,rfl,by simp[MU],ab⟩,λi o r3 z3 h6 h7 h8=>⟨λh9=>⟨ab,ab,λk4 r4 z4 wz=>?_⟩,λh9=>⟨_,_,_,rfl,rfl,rfl,ab,h8⟩⟩⟩;have Ge:0<=k4/\k4<=2:=by simp at wz;omega
 exact⟨ab,ab,ab,i+1,_,_,_,rfl,ab,rfl,rfl,ab,by simp[h7],zK h8 ab,ab⟩
def D47:cp->cp->Dn
 |[.ptr 0 0],[.sl (.int .i64) _ .no,.val (.int .u64 _)]=>some ([],.ex cj λo=>.ex cj λr=>.ex Int λz=>.res (.sl kP o .no) (FQ r z) [o≠[],∀x∈o,0<=x/\x<=3,o.Pairwise (·<·)],
  [(4,.ex Nat λi=>.ex cj λo=>.ex cj λr=>.ex Int λz=>.st {sl:=[(3,.sl kP o (.oS 1)),(4,jE i)],pl:=[(0,FQ r z)],own:=[(3,1)],gV:=[i<=4,o.length<=i,∀x∈o,0<=x/\x<i,o.Pairwise (·<·)],m:=4-i})])
 |_,_=>none
theorem v47:VC R3 Tryz.f83 [some fH] [some fH,some (.int .u64)] D47:=by
 refine yq λa cs=>?_;unfold D47;split
 rotate_left
 trivial;rename_i r z;intro hp;refine Ah (A:=(∃(a:Nat),∃(y:cj),∃(n:cj),∃(k:Int),[]=y/\0=(↑a:Int)/\r=n/\z=k/\a<=4/\y.length<=a/\(∀(x:Int),x∈y->0<=x/\x<(↑a:Int))/\List.Pairwise (λ(x1 x2:Int)=>x1<x2) y/\4-a<1000000)/\∀(a:Nat)(y n:cj)(k:Int),a<=4->y.length<=a->(∀(x:Int),x∈y->0<=x/\x<(↑a:Int))->List.Pairwise (λ(x1 x2:Int)=>x1<x2) y->bM (decide ((↑a:Int)<=3)) ((2:Int)<=1000/\(0:Int)<=2/\∀(s:Bool)(t:Int)(j:cj)(i:Int),bM s (y.length+1<=1000000000/\jC ((↑a:Int)+1)/\∃(u:Nat),∃(v:cj),∃(w:cj),∃(m:Int),Nj kP.den/\y++[(↑a:Int)]=v/\(↑a:Int)+1=(↑u:Int)/\j=w/\i=m/\u<=4/\v.length<=u/\(∀(x:Int),x∈v->0<=x/\x<(↑u:Int))/\List.Pairwise (λ(x1 x2:Int)=>x1<x2) v/\4-u<4-a) (jC ((↑a:Int)+1)/\∃(u:Nat),∃(v:cj),∃(w:cj),∃(m:Int),Nj kP.den/\y=v/\(↑a:Int)+1=(↑u:Int)/\j=w/\i=m/\u<=4/\v.length<=u/\(∀(x:Int),x∈v->0<=x/\x<(↑u:Int))/\List.Pairwise (λ(x1 x2:Int)=>x1<x2) v/\4-u<4-a)) (bM ((↑y.length:Int)==0) ((3:Int)<=1000/\(-10000:Int)<=3/\∀(a:Int)(s:cj)(t:Int),0<=a->a<=3\/a=0->∃(u:cj),∃(v:cj),∃(w:Int),[a]=u/\s=v/\t=w/\u≠[]/\(∀(x:Int),x∈u->0<=x/\x<=3)/\List.Pairwise (λ(x1 x2:Int)=>x1<x2) u/\True) (∃(a:cj),∃(s:cj),∃(t:Int),y=a/\n=s/\k=t/\a≠[]/\(∀(x:Int),x∈a->0<=x/\x<=3)/\List.Pairwise (λ(x1 x2:Int)=>x1<x2) a/\True))) (by kernel_rfl) ?_;simp only[eS,lP,j9,j8,og,jC,and_true,true_and,eq_self];refine⟨⟨0,[],_,_,rfl,rfl,rfl,rfl,ab,ae,ae,ae,ab⟩,λi o r1 z1 h1 h2 h3 h4=>⟨λh5=>⟨ab,ab,λb _ r2 z2=>?_⟩,λh5=>⟨λh6=>⟨ab,ab,λk r2 z2 h7 h8=>⟨_,_,_,rfl,rfl,rfl,ae,by simp;omega,ae⟩⟩,λh6=>⟨_,_,_,rfl,rfl,rfl,λe=>h6 (by rw[e];rfl),λx hx=>by have:=h3 x hx;omega,h4⟩⟩⟩⟩;rw[iZ];exact⟨λ_=>⟨ab,ab,i+1,_,_,_,rfl,ab,rfl,rfl,ab,by simp;omega,zK (λx hx=>by have:=h3 x hx;omega) ab,Zg h4 (λx hx=>(h3 x hx).2),ab⟩,λ_=>⟨ab,i+1,_,_,_,rfl,ab,rfl,rfl,ab,ab,λx hx=>by have:=h3 x hx;omega,h4,ab⟩⟩
def R4:ij:=(R3.CB 80 λa c=>dS (D44 a c)).CB 83 λa c=>dS (D47 a c)
abbrev pcS(f:cj->cj->Int->cj->List Prop):tG:=.ex cj λu=>.ex cj λl=>.ex Int λw=>.ex cj λls=>.ex cj λr=>.ex Int λz=>.res (pcV u l w ls) (FQ r z) (f u l w ls)
def D12:cp->cp->Dn
 |[.ptr 0 0,.val (.int .i64 c)],[.sl (.int .i64) _ .no,.val (.int .u64 _)]=>some ([3<=c,c<=8],pcS λu l w ls=>[Ok u l w ls,(u.length:Int)<=c],[])
 |_,_=>none
theorem v12:VC R4 Tryz.f44 [some cE] [some fH,some (.int .u64)] D12:=by
 refine yq λa cs=>?_;unfold D12;split
 rotate_left
 trivial;rename_i c r z;intro hp;obtain⟨h1,h2,-⟩:=hp;refine Ah (A:=(-1000:Int)<=3/\(3:Int)<=1000/\(-1000:Int)<=c/\c<=1003/\c<=5000/\∀(a:Int)(z:cj)(y:Int),3<=a->a<=c\/a=3->0<=a/\a<=100/\∀(w X:cj)(Y:Int),(↑w.length:Int)=a->MU w->0<=a/\a<=100/\∀(u h:cj)(g:Int),(↑u.length:Int)=a->MU u->(2:Int)<=1000/\(-10000:Int)<=2/\∀(a:Int)(f:cj)(e:Int),0<=a->a<=2\/a=0->0<4/\4<=1000/\∀(r:Int)(d:cj)(b:Int),r∈[(0:Int),(0:Int),(1:Int),a]->∀(a n:cj)(k:Int),a≠[]->(∀(x:Int),x∈a->0<=x/\x<=3)->List.Pairwise (λ(x1 x2:Int)=>x1<x2) a->∃(v:cj),∃(s:cj),∃(t:Int),∃(m:cj),∃(j:cj),∃(i:Int),w=v/\u=s/\r=t/\a=m/\n=j/\k=i/\Ok v s t m/\(↑v.length:Int)<=c/\True) (by kernel_rfl) ?_;simp only[eS,lP,j9,j8,og,jC,and_true,true_and,eq_self];refine⟨ab,ab,ab,ab,ab,λn r1 z1 h3 h4=>⟨ab,ab,λu r2 z2 h5 h6=>⟨ab,ab,λl r3 z3 h7 h8=>⟨ab,ab,λk r4 z4 h9 wz=>⟨ab,ab,λw r5 z5 Ge ls r6 z6 U0 h13 h14=>?_⟩⟩⟩⟩⟩;have h15:0<=w/\w<=2:=by simp at Ge;omega
 exact⟨u,l,w,ls,r6,z6,rfl,rfl,rfl,rfl,rfl,rfl,⟨ab,ab,ab,h6,h8,h15.1,h15.2,U0,h13,h14⟩,ab⟩
def R5:ij:=R4.CB 44 λa c=>dS (D12 a c)
def D13:cp->cp->Dn
 |[.ptr 0 0,.agg [.sl (.int .i64) u .no,.sl (.int .i64) l .no,.val (.int .i64 w),.sl (.int .i64) ls .no]],[.sl (.int .i64) _ .no,.val (.int .u64 _)]=>some ([Ok u l w ls],pcS λu1 l1 w1 ls1=>[Ok u1 l1 w1 ls1,u1=l.map (9-·)],
  [(5,.ex cj λu1=>.ex cj λl1=>.ex Int λw1=>.ex cj λls1=>.ex cj λr=>.ex Int λz=>.ex Nat λi=>.st {sl:=[(6,jE i)],pl:=[(0,FQ r z),(3,[.sl kP ((l.take i).map (9-·)) (.oS 4),.sl kP l1 .no,jE w1,.sl kP ls1 .no])],own:=[(3,1)],gV:=[i<=l.length,Ok u1 l1 w1 ls1,l1.length=l.length],m:=l.length-i})])
 |_,_=>none
theorem v13:VC R5 Tryz.f43 [some cE] [some fH,some (.int .u64)] D13:=by
 refine yq λa cs=>?_;unfold D13;split
 rotate_left
 trivial;rename_i u l w ls r z;intro hp;have h1:=hp.1;refine Ah (A:=3<=(↑u.length:Int)/\(↑u.length:Int)<=8/\∀(a y:cj)(z:Int)(d X:cj)(Y:Int),Ok a y z d->(↑a.length:Int)<=(↑u.length:Int)->0<=(↑u.length:Int)/\(↑u.length:Int)<=100/\∀(a c:cj)(b:Int),(↑a.length:Int)=(↑u.length:Int)->MU a->(∃(s:cj),∃(r:cj),∃(t:Int),∃(n:cj),∃(i:cj),∃(v:Int),∃(h:Nat),0=(↑h:Int)/\c=i/\b=v/\[]=List.map (λ(x:kP.den)=>(9:kP.den)-x) (List.take h l)/\a=r/\z=t/\d=n/\h<=l.length/\Ok s r t n/\r.length=l.length/\l.length-h<1000000)/\∀(a s:cj)(r:Int)(t n:cj)(i:Int)(v:Nat),v<=l.length->Ok a s r t->s.length=l.length->bM (decide ((↑v:Int)<(↑l.length:Int))) ((0<=(↑v:Int)/\(↑v:Int)<(↑l.length:Int))/\jC ((9:Int)-l.getD v 0)/\(List.map (λ(x:kP.den)=>(9:kP.den)-x) (List.take v l)).length+1<=1000000000/\jC ((↑v:Int)+1)/\∃(a:cj),∃(m:cj),∃(k:Int),∃(j:cj),∃(f:cj),∃(e:Int),∃(g:Nat),(↑v:Int)+1=(↑g:Int)/\n=f/\i=e/\u=u/\l=l/\w=w/\ls=ls/\(0:Int)=0/\List.map (λ(x:kP.den)=>(9:kP.den)-x) (List.take v l)++[(9:Int)-l.getD v 0]=List.map (λ(x:kP.den)=>(9:kP.den)-x) (List.take g l)/\s=m/\r=k/\t=j/\g<=l.length/\Ok a m k j/\m.length=l.length/\l.length-g<l.length-v) (∃(a:cj),∃(m:cj),∃(k:Int),∃(j:cj),∃(f:cj),∃(e:Int),List.map (λ(x:kP.den)=>(9:kP.den)-x) (List.take v l)=a/\s=m/\r=k/\t=j/\n=f/\i=e/\Ok a m k j/\a=List.map (λ(x:kP.den)=>(9:kP.den)-x) l/\True)) (by kernel_rfl) ?_;simp only[eS,lP,j9,j8,og,jC,and_true,true_and,eq_self];have:=h1.n3;have:=h1.n8;have:=h1.len;refine⟨ab,ab,λu1 l1 w1 ls1 r1 z1 h2 h3=>⟨ab,ab,λo r2 z2 h4 h5=>⟨⟨o,o,w1,ls1,r2,z2,0,rfl,rfl,rfl,rfl,rfl,rfl,rfl,ab,⟨ab,ab,rfl,h5,h5,h2.w0,h2.w2,h2.ne,h2.lie,h2.asc⟩,ab,ab⟩,λu3 o w ls r3 z3 i h6 h7 h8=>⟨λh9=>?_,λh9=>?_⟩⟩⟩⟩;have:=h1.hl _ (uB (l:=l) (i:=i) ab);exact⟨ab,ab,by simp;omega,ab,u3,o,w,ls,r3,z3,i+1,ab,rfl,rfl,F0 (f:=λx=>9-x) ab,rfl,rfl,rfl,ab,h7,h8,ab⟩;rw[show i=l.length by omega,gN];exact⟨_,o,w,ls,r3,z3,rfl,rfl,rfl,rfl,rfl,rfl,Yv h7 h8 h1.hl,rfl⟩
def R6:ij:=R5.CB 43 λa c=>dS (D13 a c)
section
variable {cF:bT} (tk:RX cF)
include tk
theorem af5:oU cF 1 R1:=mkN tk (kD tk) ao Tryz.func9 rfl v11 (ZK (kD tk) Tryz.func79 rfl v81 (mC (kD tk)))
theorem aae:oU cF 2 R2:=ZK (af5 tk) Tryz.func41 rfl v46 (mC (af5 tk))
theorem adG:oU cF 3 R3:=ZK (aae tk) Tryz.func82 rfl v45 (ZK (aae tk) Tryz.func42 rfl v27 (ZK (aae tk) Tryz.func81 rfl v19 (mC (aae tk))))
theorem af4:oU cF 4 R4:=ZK (adG tk) Tryz.func83 rfl v47 (ZK (adG tk) Tryz.func80 rfl v44 (mC (adG tk)))
theorem af3:oU cF 5 R5:=ZK (af4 tk) Tryz.func44 rfl v12 (mC (af4 tk))
theorem aiS:oU cF 6 R6:=ZK (af3 tk) Tryz.func43 rfl v13 (mC (af3 tk))
end
end Go.Tv
namespace Go.Tv
open Go Go.Di Go.Proofs
def U6(p:cE.den):Prop:=Ok p.1 p.2.1 p.2.2.1 p.2.2.2.1
def qa(l:cP):Int:=if 4<l.length then 6 else rX l
def aew:cp->Dn
 |[.val (.int .i64 x),.val (.int .i64 lo),.val (.int .i64 hi)]=>some ([],.res (tQ (decide (lo<=x/\x<=hi))) [] [],[])
 |_=>none
theorem v107:VI T0 Tryz.f117 [some .bool] aew:=by
 refine nC λa=>?_;unfold aew;split
 rotate_left
 trivial;rename_i x lo hi;intro hp;refine Ah (A:=bM (decide (lo<=x)) (decide (x<=hi)=decide (lo<=x/\x<=hi)/\True) (false=decide (lo<=x/\x<=hi)/\True)) (by kernel_rfl) ?_;rw[iZ];refine⟨λh=>⟨?_,trivial⟩,λh=>⟨?_,trivial⟩⟩;simp only[bR]at h;rw[decide_eq_decide];omega
 simp only[decide_eq_false_iff_not]at h;symm;rw[decide_eq_false_iff_not];omega
def G1:ij:=T0.jF 117 λa=>dS (aew a)
def aex:cp->Dn
 |[.sl (.int .i64) l .no]=>some ([l.length<=1000],.ex Int λe=>.res (jE e) [] [e=if l.all (Cj 9)=true then 0 else 1],[(3,.ex Nat λi=>.st {sl:=[(3,jE i)],gV:=[i<=l.length,(l.take i).all (Cj 9)=true],m:=l.length-i})])
 |_=>none
def U9.q1 (p0:List kP.den)(p1:Int)(p2 p3:Nat):Prop:=p1=(↑p2:Int)/\p2<=p0.length/\(List.take p2 p0).all (Cj (9:Int))=true/\(p0.length-p2)<p3
theorem U9:VI G1 Tryz.f116 [some kP] aex:=by
 refine nC λa=>?_;unfold aex;split
 rotate_left
 trivial;rename_i l;intro hp;refine Ah (A:=(∃(a:Nat),U9.q1 l (0:Int) a 1000000)/\∀(a:Nat),a<=l.length->(List.take a l).all (Cj (9:Int))=true->bM (decide ((↑a:Int)<(↑l.length:Int))) ((0<=(↑a:Int)/\(↑a:Int)<(↑l.length:Int))/\bM (!decide (0<=l.getD a 0/\l.getD a 0<=9)) (∃(a:Int),1=a/\(a=if l.all (Cj (9:Int))=true then(0:Int)else(1:Int))/\True) (jC ((↑a:Int)+1)/\∃(x:Nat),l=l/\U9.q1 l ((↑a:Int)+1) x (l.length-a))) (∃(a:Int),0=a/\(a=if l.all (Cj (9:Int))=true then(0:Int)else(1:Int))/\True)) (by kernel_rfl) ?_;unfold U9.q1;have h1:=hp.1;simp only[eS,j8,og,jC,and_true,true_and,eq_self];refine⟨⟨0,rfl,ab,rfl,ab⟩,λi h2 h3=>⟨λh4=>⟨ab,λh5=>⟨ab,i+1,ab,ab,acu ab h3 (lT h5),ab⟩,λh5=>⟨1,rfl,?_⟩⟩,λh4=>⟨0,rfl,?_⟩⟩⟩;rw[abG (i:=i) ab (iP h5)];rfl
 rw[show i=l.length by omega,gN]at h3;rw[if_pos h3]
def G2:ij:=G1.jF 116 λa=>dS (aex a)
def D91:cp->Dn
 |[.agg [.sl (.int .i64) au .no,.sl (.int .i64) al .no,.val (.int .i64 aw),.sl (.int .i64) aq .no]]=>some ([Sh au al aq],.res (jE (Af au al aw aq)) [] [],[(29,.ex Nat λi=>.st {sl:=[(5,jE i)],gV:=[i<=aq.length,oV aq 0=oV aq i],m:=aq.length-i})])
 |_=>none
def v91.q1 (p0:Nat)(p1 p2:cj)(p3:Int)(p4:cj):Prop:=jC ((↑p0:Int)+1)/\∃(a:Nat),(↑p0:Int)+1=(↑a:Int)/\p1=p1/\p2=p2/\p3=p3/\p4=p4/\a<=p4.length/\oV p4 0=oV p4 a/\(p4.length-a)<(p4.length-p0)
theorem v91:VI G2 Tryz.f86 [some kP] D91:=by
 refine nC λa=>?_;unfold D91;split
 rotate_left
 trivial;rename_i u l w ls;intro hp;change cj at u l ls;refine Ah (A:=bM (decide ((↑u.length:Int)<3)) (7=Af u l w ls/\True) (bM (decide ((↑u.length:Int)>8)) (6=Af u l w ls/\True) (bM (decide ((↑l.length:Int)<(↑u.length:Int))) (7=Af u l w ls/\True) (bM (decide ((↑l.length:Int)>(↑u.length:Int))) (6=Af u l w ls/\True) (u.length<=1000/\∀(a:Int),(a=if u.all (Cj (9:Int))=true then(0:Int)else(1:Int))->bM (a !=0) (a=Af u l w ls/\True) (l.length<=1000/\∀(a:Int),(a=if l.all (Cj (9:Int))=true then(0:Int)else(1:Int))->bM (a !=0) (a=Af u l w ls/\True) (bM (!decide (0<=w/\w<=2)) (1=Af u l w ls/\True) (bM ((↑ls.length:Int)==0) (7=Af u l w ls/\True) ((∃(a:Nat),0=(↑a:Int)/\a<=ls.length/\oV ls 0=oV ls a/\(ls.length-a)<1000000)/\∀(a:Nat),a<=ls.length->oV ls 0=oV ls a->bM (decide ((↑a:Int)<(↑ls.length:Int))) ((0<=(↑a:Int)/\(↑a:Int)<(↑ls.length:Int))/\bM (!decide (0<=ls.getD a 0/\ls.getD a 0<=3)) (8=Af u l w ls/\True) (bM (decide ((↑a:Int)>0)) ((0<=(↑a:Int)/\(↑a:Int)<(↑ls.length:Int))/\jC ((↑a:Int)-1)/\(0<=(↑a:Int)-1/\(↑a:Int)-1<(↑ls.length:Int))/\bM (decide (ls.getD a 0<=ls.getD ((↑a:Int)-1).toNat (0:Int))) (5=Af u l w ls/\True) (v91.q1 a u l w ls)) (v91.q1 a u l w ls))) (0=Af u l w ls/\True)))))))))) (by kernel_rfl) ?_;unfold v91.q1;obtain⟨h1,h2,h3⟩:=hp.1;simp only[eS,lP,j9,j8,og,jC,and_true,true_and,eq_self];refine⟨λa1=>?_,λa1=>⟨λa2=>?_,λa2=>⟨λa3=>?_,λa3=>⟨λa4=>?_,λa4=>⟨ab,λe he=>?_⟩⟩⟩⟩⟩;rw[Af,if_pos ab];rw[Af,if_neg ab,if_pos ab];rw[Af,if_neg ab,if_neg ab,if_pos ab];rw[Af,if_neg ab,if_neg ab,if_neg ab,if_pos ab];have e1:∀(_:u.all (Cj 9)=false\/l.all (Cj 9)=false\/w<0\/2<w),Af u l w ls=1:=λh=>by rw[Af,if_neg ab,if_neg ab,if_neg ab,if_neg ab,if_pos h]
 cases b1:u.all (Cj 9)with
 |false=>rw[b1]at he;subst he;exact⟨λh=>absurd h ao,λ_=>(e1 (.inl b1)).symm⟩
 |true=>
 rw[b1]at he;subst he
 refine⟨λ_=>⟨ab,λe he=>?_⟩,λh=>absurd rfl h⟩;cases b2:l.all (Cj 9)with
 |false=>rw[b2]at he;subst he;exact⟨λh=>absurd h ao,λ_=>(e1 (.inr (.inl b2))).symm⟩
 |true=>
 rw[b2]at he;subst he
 refine⟨λ_=>⟨λb5=>⟨λb6=>?_,λb6=>?_⟩,λb5=>(e1 ab).symm⟩,λh=>absurd rfl h⟩;rw[Af,if_neg ab,if_neg ab,if_neg ab,if_neg ab,if_neg (by rw[b1,b2];simp;omega),if_pos ab];have e:Af u l w ls=oV ls 0:=ack ab ab ab ab (by rw[b1];rfl) (by rw[b2];rfl) ab ab ab;rw[e];refine⟨⟨0,rfl,ab,rfl,ab⟩,λi k1 k2=>⟨λk3=>⟨ab,λk4=>⟨λk5=>⟨ab,ab,ab,λk6=>?_,λk6=>⟨ab,i+1,ab,ab,k2.trans (zB ab ab ?_),ab⟩⟩,λk5=>⟨ab,i+1,ab,ab,k2.trans (zB ab ab ab),ab⟩⟩,λk4=>?_⟩,λk3=>?_⟩⟩;rw[k2,VV ab ab ⟨ab,by rw[show i-1=((i:Int)-1).toNat by omega];exact k6⟩];rw[show i-1=((i:Int)-1).toNat by omega];exactλh=>k6 h.2
 rw[k2,VU ab ab];rw[k2,VW ab]
def G3:ij:=G2.jF 86 λa=>dS (D91 a)
theorem HI{l:cP}{i:Nat}{d:PD}(h:i<l.length)(h1:rX (l.take i)=0):(Nv (l.getD i d)=0->rX (l.take (i+1))=0)/\(Nv (l.getD i d)≠0->rX l=Nv (l.getD i d)):=by
 have e:l.getD i d=l[i]:=by simp[aK,h]
 rw[e];constructor;intro k;rw[<-List.take_append_getElem h,Cg h1,rX,if_neg (λh=>h k)];rfl;intro k
 conv=>lhs;rw[<-List.take_append_drop i l]
 rw[Cg h1,jM h,rX,if_pos k]
def D51:cp->Dn
 |[.sl (.pair (.sl (.int .i64)) (.pair (.sl (.int .i64)) (.pair (.int .i64) (.pair (.sl (.int .i64)) .unit)))) l .no]=>some ([l.length<=1000,∀p∈l,gE p],.res (jE (qa l)) [] [],
  [(6,.ex Nat λi=>.st {sl:=[(3,jE i)],gV:=[i<=l.length,rX (l.take i)=0],m:=l.length-i})])
 |_=>none
def v51.q1 (p0:List (cE).den)(p1:Int)(p2 p3:Nat):Prop:=p1=(↑p2:Int)/\p2<=p0.length/\rX (List.take p2 p0)=0/\(p0.length-p2)<p3
theorem v51:VI G3 Tryz.f50 [some kP] D51:=by
 refine nC λa=>?_;unfold D51;split
 rotate_left
 trivial;rename_i l;intro hp;refine Ah (A:=bM (decide ((↑l.length:Int)>4)) (6=qa l/\True) ((∃(a:Nat),v51.q1 l (0:Int) a 1000000)/\∀(a:Nat),a<=l.length->rX (List.take a l)=0->bM (decide ((↑a:Int)<(↑l.length:Int))) ((0<=(↑a:Int)/\(↑a:Int)<(↑l.length:Int))/\Sh (l.getD a bo).1 (l.getD a bo).2.1 (l.getD a bo).2.2.2.1/\bM (Af (l.getD a bo).1 (l.getD a bo).2.1 (l.getD a bo).2.2.1 (l.getD a bo).2.2.2.1 !=0) (Af (l.getD a bo).1 (l.getD a bo).2.1 (l.getD a bo).2.2.1 (l.getD a bo).2.2.2.1=qa l/\True) (jC ((↑a:Int)+1)/\∃(x:Nat),l=l/\v51.q1 l ((↑a:Int)+1) x (l.length-a))) (0=qa l/\True))) (by kernel_rfl) ?_;unfold v51.q1;obtain⟨h1,h2,-⟩:=hp;change cP at l;simp only[eS,j9,jC,og,and_true,true_and,eq_self];refine⟨λh=>by rw[qa,if_pos ab],λh=>⟨⟨0,rfl,ab,rfl,ab⟩,λi k1 k2=>⟨λk3=>⟨ab,rD ab h2,λk4=>⟨ab,i+1,ab,ab,(HI ab k2).1 k4,ab⟩,λk4=>?_⟩,λk3=>?_⟩⟩⟩;rw[qa,if_neg ab];exact((HI ab k2).2 k4).symm
 rw[show i=l.length by omega,gN]at k2;rw[qa,if_neg ab,k2]
end Go.Tv
namespace Go.Tv
open Go Go.Di Go.Proofs
abbrev M9(b:ByteArray):TV:=.val (.string b)
def pS(l:List UInt8):ByteArray:=⟨l.toArray⟩
theorem vq(l m:List UInt8):pS l++pS m=pS (l++m):=by apply ByteArray.ext;simp[pS,ByteArray.data_append]
theorem jj(l:List UInt8):(pS l).size=l.length:=by simp[pS,ByteArray.size]
theorem Iz(b:ByteArray):pS b.data.toList=b:=by cases b;simp[pS]
theorem vg(b:ByteArray):b.data.toList.length=b.size:=eZ
def rW(l:cj):List UInt8:=l.map λn=>UInt8.ofNat (48+n.toNat)
theorem ace{n:Int}(h:0<=n/\n<=9):(⟨#[48,49,50,51,52,53,54,55,56,57]⟩:ByteArray).extract n.toNat (n+1).toNat=pS (rW [n]):=by
 have:n=0\/n=1\/n=2\/n=3\/n=4\/n=5\/n=6\/n=7\/n=8\/n=9:=ab
 rcases this with rfl|rfl|rfl|rfl|rfl|rfl|rfl|rfl|rfl|rfl<;>rfl
theorem Y4(l m:cj):rW (l++m)=rW l++rW m:=eY
theorem pN(l:cj):(rW l).length=l.length:=List.length_map _
def aeu:cp->Dn
 |[.sl (.int .i64) l .no]=>some ([l.length<=1000,MU l],.ex ByteArray λb=>.res (M9 b) [] [b=pS (rW l)],
  [(4,.ex Nat λi=>.ex ByteArray λb=>.st {sl:=[(3,M9 b),(4,jE i)],gV:=[i<=l.length,b=pS (rW (l.take i))],m:=l.length-i})])
 |_=>none
def U7.q1 (p0:cj)(p1 p2:ByteArray)(p3:Int)(p4 p5:Nat):Prop:=Value.string p1=Value.string p2/\p3=(↑p4:Int)/\p4<=p0.length/\p2=pS (rW (List.take p4 p0))/\(p0.length-p4)<p5
theorem U7:VI T0 Tryz.f51 [some .str] aeu:=by
 refine nC λa=>?_;unfold aeu;split
 rotate_left
 trivial;rename_i l;change cj at l;intro hp;refine Ah (A:=(∃(a:Nat),∃(x:ByteArray),U7.q1 l ({data:=#[]}:ByteArray) x (0:Int) a 1000000)/\∀(a:Nat)(x:ByteArray),a<=l.length->x=pS (rW (List.take a l))->bM (decide ((↑a:Int)<(↑l.length:Int))) ((0<=(↑a:Int)/\(↑a:Int)<(↑l.length:Int))/\(0<=(↑a:Int)/\(↑a:Int)<(↑l.length:Int))/\jC (l.getD a 0+1)/\(0<=l.getD a 0/\l.getD a 0<=l.getD a 0+1/\l.getD a 0+1<=10)/\(↑(x.size+(({data:=#[(48:UInt8),(49:UInt8),(50:UInt8),(51:UInt8),(52:UInt8),(53:UInt8),(54:UInt8),(55:UInt8),(56:UInt8),(57:UInt8)]}:ByteArray).extract (Int.toNat (l.getD a 0)) (l.getD a 0+1).toNat).size):Int)<=9223372036854775807/\jC ((↑a:Int)+1)/\∃(y:Nat),∃(z:ByteArray),l=l/\Value.string ({data:=#[]}:ByteArray)=Value.string ({data:=#[]}:ByteArray)/\U7.q1 l (x++({data:=#[(48:UInt8),(49:UInt8),(50:UInt8),(51:UInt8),(52:UInt8),(53:UInt8),(54:UInt8),(55:UInt8),(56:UInt8),(57:UInt8)]}:ByteArray).extract (Int.toNat (l.getD a 0)) (l.getD a 0+1).toNat) z ((↑a:Int)+1) y (l.length-a)) (∃(a:ByteArray),Value.string x=Value.string a/\a=pS (rW l)/\True)) (by kernel_rfl) ?_;unfold U7.q1;obtain⟨h1,h2,-⟩:=hp;simp only[eS,jC,and_true,true_and,eq_self];refine⟨⟨0,_,rfl,rfl,ab,rfl,by first|omega|(dsimp only;omega)⟩,λi b k1 k2=>⟨λk3=>?_,λk3=>⟨_,rfl,by rw[k2,show i=l.length by omega,gN]⟩⟩⟩;have hn:=afp h2 (i:=i) ab;have e:=ace hn;have hz:b.size=i:=by rw[k2,jj,pN,List.length_take];omega
 rw[e];refine⟨ab,ab,⟨ab,ab⟩,⟨ab,ab,ab⟩,?_,⟨ab,ab⟩,i+1,_,rfl,ab,ab,?_,by first|omega|(dsimp only;omega)⟩;.rw[jj,pN,hz];simp;omega
 rw[k2,vq,<-Y4,take_one ab]
def Vu:cp->Dn
 |[.val (.int .i64 n),.val (.int .i64 m)]=>some ([0<m,m<=1000000],.ex Int λr=>.res (jE r) [] [0<=r,r<m],[])
 |_=>none
theorem af0:VI T0 Tryz.f13 [some kP] Vu:=by
 refine nC λa=>?_;unfold Vu;split
 rotate_left
 trivial;rename_i n m;change Int at n m;intro hp;refine Ah (A:=m≠(0:Int)/\jC (n.tmod m+m)/\m≠(0:Int)/\∃(a:Int),(n.tmod m+m).tmod m=a/\0<=a/\a<m/\True) (by kernel_rfl) ?_;obtain⟨h1,h2,-⟩:=hp;have a1:=Int.tmod_lt_of_pos n h1;have a2:-m<n.tmod m:=by have:=Int.tmod_lt_of_pos (-n) h1;rw[Int.neg_tmod]at this;omega
 have a3:0<=n.tmod m+m:=ab
 exact⟨ab,⟨ab,ab⟩,ab,_,rfl,Int.tmod_nonneg _ a3,Int.tmod_lt_of_pos _ h1,trivial⟩
def tU(b:UInt8):Bool:=decide (48<=b.toNat)&&decide (b.toNat<=57)
def wG(l:List UInt8):cj:=l.map λb=>(b.toNat:Int)-48
def nU(l:List UInt8):cj×Bool:=if l.all tU then(wG l,!l.isEmpty)else([],false)
theorem OH{l:List UInt8}{k:Nat}(h:k<l.length):wG (l.take (k+1))=wG (l.take k)++[((l.getD k 0).toNat:Int)-48]:=by rw[wG,List.take_add_one,eY,aK,aT h];rfl
theorem Xw{l:List UInt8}{k:Nat}(h:k<l.length)(h1:(l.take k).all tU=true)(h2:tU (l.getD k 0)=true):(l.take (k+1)).all tU=true:=by rw[List.take_add_one,lU,h1,aT h];simpa [aK,aT h]using h2
theorem QF{l:List UInt8}{k:Nat}(h:k<l.length)(h2:tU (l.getD k 0)=false):nU l=([],false):=by rw[aK,aT h]at h2;rw[nU,if_neg (by rw[List.all_eq_false.2 ⟨l[k],iS h,by simpa using h2⟩];decide)]
theorem u8w{n:Nat}(h:48<=n/\n<=57):IntKind.i64.wrap (IntKind.u8.wrap ((n:Int)-48))=(n:Int)-48:=by
 have e:IntKind.u8.wrap ((n:Int)-48)=(n:Int)-48:=by simp[IntKind.wrap,IntKind.bits,IntKind.signed];omega
 rw[e,Ar]<;>omega
def D93:cp->Dn
 |[.val (.string s)]=>some ([s.size<=1000],.ex cj λo=>.ex Bool λb=>.res (.tup [.sl kP o .no,tQ b]) [] [nU s.data.toList=(o,b)],
  [(4,.ex Nat λi=>.ex cj λo=>.st {sl:=[(4,.sl kP o (.oS 0)),(5,jE i)],own:=[(3,1)],gV:=[i<=s.size,(s.data.toList.take i).all tU=true,o=wG (s.data.toList.take i)],m:=s.size-i})])
 |_=>none
def v93.q1 (p0:ByteArray)(p1:List kP.den)(p2:cj)(p3:Int)(p4 p5:Nat):Prop:=p1=p2/\p3=(↑p4:Int)/\p4<=p0.size/\(List.take p4 p0.data.toList).all tU=true/\p2=wG (List.take p4 p0.data.toList)/\(p0.size-p4)<p5
theorem v93:VI T0 Tryz.f93 [some fH,some .bool] D93:=by
 refine nC λa=>?_;unfold D93;split
 rotate_left
 trivial;rename_i s;change ByteArray at s;intro hp;refine Ah (A:=(∃(a:Nat),∃(y:cj),v93.q1 s [] y (0:Int) a 1000000)/\∀(a:Nat)(y:cj),a<=s.size->(List.take a s.data.toList).all tU=true->y=wG (List.take a s.data.toList)->bM (decide ((↑a:Int)<(↑s.size:Int))) ((0<=(↑a:Int)/\(↑a:Int)<(↑s.size:Int))/\bM (decide ((↑(s.data.toList.getD a (0:UInt8)).toNat:Int)<48)) (∃(a:cj),∃(x:Bool),[]=a/\false=x/\nU s.data.toList=(a,x)/\True) ((0<=(↑a:Int)/\(↑a:Int)<(↑s.size:Int))/\bM (decide ((↑(s.data.toList.getD a (0:UInt8)).toNat:Int)>57)) (∃(a:cj),∃(x:Bool),[]=a/\false=x/\nU s.data.toList=(a,x)/\True) ((0<=(↑a:Int)/\(↑a:Int)<(↑s.size:Int))/\y.length+1<=1000000000/\jC ((↑a:Int)+1)/\∃(x:Nat),∃(z:cj),Value.string s=Value.string s/\v93.q1 s (y++[IntKind.i64.wrap (IntKind.u8.wrap ((↑(s.data.toList.getD a (0:UInt8)).toNat:Int)-48))]) z ((↑a:Int)+1) x (s.size-a)))) (∃(a:cj),∃(x:Bool),y=a/\decide ((↑s.size:Int)>0)=x/\nU s.data.toList=(a,x)/\True)) (by kernel_rfl) ?_;unfold v93.q1;have h1:=hp.1;have hs:=vg s;simp only[eS,jC,and_true,true_and,eq_self];refine⟨⟨0,_,rfl,rfl,ab,rfl,rfl,by first|omega|(dsimp only;omega)⟩,λi o k1 k2 k3=>⟨λk4=>?_,λk4=>?_⟩⟩
 .refine⟨⟨ab,ab⟩,λk5=>⟨_,_,rfl,rfl,QF (k:=i) ab (by simp only[tU,Bool.and_eq_false_iff,decide_eq_false_iff_not];omega)⟩,λk5=>⟨⟨ab,ab⟩,λk6=>⟨_,_,rfl,rfl,QF (k:=i) ab (by simp only[tU,Bool.and_eq_false_iff,decide_eq_false_iff_not];omega)⟩,λk6=>?_⟩⟩;have hl:o.length=i:=by rw[k3,wG,List.length_map,List.length_take];omega
  rw[u8w ab];exact⟨⟨ab,ab⟩,ab,⟨ab,ab⟩,i+1,_,rfl,ab,ab,Xw ab k2 (by simp only[tU,aC,bR];omega),by rw[k3,OH ab],by first|omega|(dsimp only;omega)⟩
 rw[show i=s.data.toList.length by omega,gN]at k2 k3;refine⟨_,_,rfl,rfl,?_⟩;rw[nU,if_pos k2,k3];congr 1;cases hq:s.data.toList with
 |nil=>rw[hq]at hs;simp only[gr]at hs;rw[iP ab];rfl
 |cons a l=>rw[hq]at hs;simp only[cT]at hs;rw[lT ab];rfl
def U1:ij:=T0.jF 13 λa=>dS (Vu a)
theorem EA(b:ByteArray){i j:Nat}(h:j<=b.size):(b.extract i j).size=j-i:=by rw[ByteArray.size_extract];omega
def aaK:cp->Dn
 |[.val (.string s),.val (.int .i64 at_),.val (.int .i64 how),.val (.int .u8 iU)]=>some ([s.size<=100000],.ex ByteArray λb=>.res (M9 b) [] [b.size<=100001],[])
 |_=>none
def H8.q1 (p0:Int)(p1 p2:ByteArray):Prop:=jC (p0+1)/\(0<=p0+1/\p0+1<=(↑p1.size:Int)/\(↑p1.size:Int)<=(↑p1.size:Int))/\(↑(p2.size+(p1.extract (p0+1).toNat p1.size).size):Int)<=9223372036854775807/\∃(a:ByteArray),Value.string (p2++p1.extract (p0+1).toNat p1.size)=Value.string a/\a.size<=100001/\True
def H8.q2 (p0:Int)(p1 p2:ByteArray):Prop:=(0:Int)<3/\(3:Int)<=1000000/\∀(a:Int),0<=a->a<3->bM (a==2) (jC (p0+1)/\(0<=p0/\p0<=p0+1/\p0+1<=(↑p1.size:Int))/\(↑(p2.size+(p1.extract p0.toNat (p0+1).toNat).size):Int)<=9223372036854775807/\H8.q1 p0 p1 (p2++p1.extract p0.toNat (p0+1).toNat)) (H8.q1 p0 p1 p2)
theorem H8:VI U1 Tryz.f12 [some .str] aaK:=by
 refine nC λa=>?_;unfold aaK;split
 rotate_left
 trivial;rename_i s at_ how iU;change ByteArray at s;intro hp;refine Ah (A:=bM (s.toList==({data:=#[]}:ByteArray).toList) (∃(a:ByteArray),Value.string ({data:=(List.map (λ(n:Int)=>UInt8.ofNat n.toNat) [iU]).toArray}:ByteArray)=Value.string a/\a.size<=100001/\True) (0<(↑s.size:Int)/\(↑s.size:Int)<=1000000/\∀(a:Int),0<=a->a<(↑s.size:Int)->((0:Int)<=0/\0<=a/\a<=(↑s.size:Int))/\(0:Int)<3/\(3:Int)<=1000000/\∀(x:Int),0<=x->x<3->bM (x !=1) ((↑((s.extract 0 a.toNat).size+({data:=(List.map (λ(n:Int)=>UInt8.ofNat n.toNat) [iU]).toArray}:ByteArray).size):Int)<=9223372036854775807/\H8.q2 a s (s.extract 0 a.toNat++({data:=(List.map (λ(n:Int)=>UInt8.ofNat n.toNat) [iU]).toArray}:ByteArray))) (H8.q2 a s (s.extract 0 a.toNat)))) (by kernel_rfl) ?_;unfold H8.q2 H8.q1;have h1:=hp.1;have one:({data:=(List.map (λ(n:Int)=>UInt8.ofNat n.toNat) [iU]).toArray}:ByteArray).size=1:=rfl;generalize({data:=(List.map (λ(n:Int)=>UInt8.ofNat n.toNat) [iU]).toArray}:ByteArray)=y at*;rw[iZ];refine⟨λ_=>⟨_,rfl,ab,trivial⟩,λh0=>?_⟩;have hs:0<s.size:=by
  rcases nk s.size with h|h;have:s=⟨#[]⟩:=by apply ByteArray.ext;exact Array.eq_empty_of_size_eq_zero h
  subst this;simp at h0;exact h
 refine⟨ab,ab,λa Gc UX=>⟨⟨ab,ab,ab⟩,ab,ab,λq hq0 hq1=>?_⟩⟩;have e0:(s.extract 0 a.toNat).size=a.toNat:=by rw[EA s ab];omega
 have key:∀z:ByteArray,z.size<=a.toNat+1->(0:Int)<3/\(3:Int)<=1000000/\∀r:Int,0<=r->r<3->bM (r==2) (jC (a+1)/\(0<=a/\a<=a+1/\a+1<=(s.size:Int))/\((z.size+(s.extract a.toNat (a+1).toNat).size:Nat):Int)<=9223372036854775807/\jC (a+1)/\(0<=a+1/\a+1<=(s.size:Int)/\(s.size:Int)<=(s.size:Int))/\((z++s.extract a.toNat (a+1).toNat).size+(s.extract (a+1).toNat (s.size:Int).toNat).size:Nat)<=(9223372036854775807:Int)/\∃b:ByteArray,Value.string (z++s.extract a.toNat (a+1).toNat++s.extract (a+1).toNat (s.size:Int).toNat)=Value.string b/\b.size<=100001/\True)
   (jC (a+1)/\(0<=a+1/\a+1<=(s.size:Int)/\(s.size:Int)<=(s.size:Int))/\((z.size+(s.extract (a+1).toNat (s.size:Int).toNat).size:Nat):Int)<=9223372036854775807/\∃b:ByteArray,Value.string (z++s.extract (a+1).toNat (s.size:Int).toNat)=Value.string b/\b.size<=100001/\True):=λz hz=>by
  have e1:(s.extract a.toNat (a+1).toNat).size=1:=by rw[EA s ab];omega
  have e2:(s.extract (a+1).toNat (s.size:Int).toNat).size=s.size-a.toNat-1:=by rw[EA s ab];omega
  refine⟨ab,ab,λr _ _=>iZ.2 ⟨λ_=>⟨⟨ab,ab⟩,⟨ab,ab,ab⟩,ab,⟨ab,ab⟩,⟨ab,ab,ab⟩,by rw[ByteArray.size_append];omega,_,rfl,by simp only[ByteArray.size_append];omega,trivial⟩,λ_=>⟨⟨ab,ab⟩,⟨ab,ab,ab⟩,ab,_,rfl,by simp only[ByteArray.size_append];omega,trivial⟩⟩⟩
 rw[iZ];exact⟨λ_=>⟨ab,key _ (by rw[ByteArray.size_append];omega)⟩,λ_=>key _ ab⟩
end Go.Tv
namespace Go.Tv
open Go Go.Di Go.Proofs
def kB(c:Int):List UInt8->List (List UInt8)
 |[]=>[[]]
 |b::r=>if(b.toNat:Int)=c then[]::kB c r else match kB c r with
  |h::t=>(b::h)::t
  |[]=>[[b]]
theorem NC(c:Int)(l:List UInt8):kB c l≠[]:=by
 cases l with
 |nil=>simp[kB]
 |cons b r=>rw[kB];split;simp;split<;>simp
theorem Qa{c:Int}{b:UInt8}(h:(b.toNat:Int)=c):∀l:List UInt8,kB c (l++[b])=kB c l++[[]]
 |[]=>by simp[kB,h]
 |a::l=>by
  have ih:=Qa h l;simp only[gM,kB];rw[ih];split;rfl;cases hq:kB c l with
  |nil=>exact absurd hq (NC c l)
  |cons x t=>rfl
theorem Ws{c:Int}{b:UInt8}(h:(b.toNat:Int)≠c):∀l:List UInt8,∃t x,kB c l=t++[x]/\kB c (l++[b])=t++[x++[b]]
 |[]=>⟨[],[],rfl,by simp[kB,h]⟩
 |a::l=>by
  obtain⟨t,x,e1,e2⟩:=Ws h l;simp only[gM,kB];rw[e1,e2];split;exact⟨[]::t,x,rfl,rfl⟩;cases t with
  |nil=>exact⟨[],a::x,rfl,rfl⟩
  |cons y t=>exact⟨(a::y)::t,x,rfl,rfl⟩
theorem IW(c:Int):∀l:List UInt8,(kB c l).length<=l.length+1
 |[]=>by simp[kB]
 |b::r=>by
  have ih:=IW c r;rw[kB];split;simpa using ih;cases hq:kB c r with
  |nil=>simp
  |cons x t=>rw[hq]at ih;simp at ih⊢;omega
theorem As(c:Int):∀(l:List UInt8)(x:List UInt8),x∈kB c l->x.length<=l.length
 |[],x,h=>by simp[kB]at h;rw[h];simp
 |b::r,x,h=>by
  rw[kB]at h;split at h;rcases aV.1 h with rfl|h;simp;have:=As c r x h;rw[cT];omega
  split at h;rename_i y t hq;rcases aV.1 h with rfl|h;have:=As c r y (by rw[hq];simp);simpa using this;have:=As c r x (by rw[hq];simp[h]);rw[cT];omega
  simp at h;rw[h];simp
theorem XU{α:Type}(t:List α)(x y d:α):(t++[x]).set ((t++[x]).length-1) y=t++[y]/\(t++[x]).getD ((t++[x]).length-1) d=x:=by
 have:(t++[x]).length-1=t.length:=ae
 rw[this];simp[aK]
theorem aeO{l:List UInt8}{i:Nat}(h:i<l.length):l.take (i+1)=l.take i++[l.getD i 0]:=by rw[List.take_add_one,aT h,aK,aT h];rfl
theorem Xv(s:ByteArray){i:Nat}(h:i<s.size):s.extract i (i+1)=pS [s.data.toList.getD i 0]:=by
 have h':i<s.data.toList.length:=by rw[vg];exact h
 rw[<-Iz (s.extract i (i+1))];congr 1;rw[ByteArray.data_extract,Array.toList_extract];rw[List.extract_eq_take_drop,qE,jM h',aK,aT h'];rfl
def aeF(te:cp)(i:Nat)(k:Nat->LA):LA:=
 match te.getD i .unk with
 |.so g _=>k g
 |_=>.un 0
def D54:cp->Dn
 |[.val (.string s),.val (.int .u8 c)]=>some ([s.size<=1000],.ex (List ByteArray) λo=>.res (.sl .str o .no) [] [o=(kB c s.data.toList).map pS],
  [(4,.dep λte _=>aeF te 5 λg=>.ex Nat λi=>.ex (List ByteArray) λo=>.st {sl:=[(5,.so g .str),(6,jE i)],mp:=[(g,⟨.str,o⟩)],gV:=[i<=s.size,o=(kB c (s.data.toList.take i)).map pS],m:=s.size-i})])
 |_=>none
def v54.q1 (p0:Nat)(p1:ByteArray)(p2:Int)(p3:List ByteArray)(p4:List TT.str.den):Prop:=jC ((↑p0:Int)+1)/\∃(a:Nat),∃(x:List ByteArray),Value.string p1=Value.string p1/\p2=p2/\Nj TT.str.den/\(↑p0:Int)+1=(↑a:Int)/\p4=x/\a<=p1.size/\x=List.map pS (kB p2 (List.take a p1.data.toList))/\(p1.size-a)<(p1.size-p0)
theorem v54:VI T0 Tryz.f54 [some (.sl .str)] D54:=by
 refine nC λa=>?_;unfold D54;split
 rotate_left
 trivial;rename_i s c;change ByteArray at s;change Int at c;intro hp;refine Ah (A:=True/\(∃(a:Nat),∃(x:List ByteArray),0=(↑a:Int)/\[({data:=#[]}:ByteArray)]=x/\a<=s.size/\x=List.map pS (kB c (List.take a s.data.toList))/\(s.size-a)<1000000)/\∀(a:Nat)(x:List ByteArray),a<=s.size->x=List.map pS (kB c (List.take a s.data.toList))->bM (decide ((↑a:Int)<(↑s.size:Int))) ((0<=(↑a:Int)/\(↑a:Int)<(↑s.size:Int))/\bM ((↑(s.data.toList.getD a (0:UInt8)).toNat:Int)==c) (x.length+1<=1000000000/\v54.q1 a s c x (x++[({data:=#[]}:ByteArray)])) (True/\jC ((↑x.length:Int)-1)/\True/\jC ((↑x.length:Int)-1)/\(0<=(↑x.length:Int)-1/\(↑x.length:Int)-1<(↑x.length:Int))/\True/\jC ((↑a:Int)+1)/\(0<=(↑a:Int)/\(↑a:Int)<=(↑a:Int)+1/\(↑a:Int)+1<=(↑s.size:Int))/\(↑(ByteArray.size (x.getD ((↑x.length:Int)-1).toNat ByteArray.empty)+(s.extract a ((↑a:Int)+1).toNat).size):Int)<=9223372036854775807/\(0<=(↑x.length:Int)-1/\(↑x.length:Int)-1<(↑x.length:Int))/\True/\v54.q1 a s c x (x.set ((↑x.length:Int)-1).toNat (x.getD ((↑x.length:Int)-1).toNat ByteArray.empty++s.extract a ((↑a:Int)+1).toNat)))) (∃(a:List ByteArray),x=a/\a=List.map pS (kB c s.data.toList)/\True)) (by kernel_rfl) ?_;unfold v54.q1;have h1:=hp.1;have hs:=vg s;simp only[eS,lP,og,jC,and_true,true_and,eq_self];refine⟨⟨0,_,rfl,rfl,ab,rfl,by first|omega|(dsimp only;omega)⟩,λi o k1 k2=>⟨λk3=>⟨⟨ab,ab⟩,λk4=>?_,λk4=>?_⟩,λk3=>⟨_,rfl,by rw[k2,show i=s.data.toList.length by omega,gN]⟩⟩⟩;all_goals have hl:o.length<=i+1:=by rw[k2,List.length_map];exact bt (IW c _) (by rw[List.length_take];omega)
 all_goals have ht:=aeO (l:=s.data.toList) (i:=i) ab
 .refine⟨ab,⟨ab,ab⟩,i+1,_,ab,rfl,ab,?_,by first|omega|(dsimp only;omega)⟩;rw[ht,Qa k4,eY,k2];rfl
 .obtain⟨t,x,e1,e2⟩:=Ws k4 (s.data.toList.take i);have ho:o=t.map pS++[pS x]:=by rw[k2,e1,eY];rfl
  have hp:0<o.length:=by rw[ho];simp
  have hi:((o.length:Int)-1).toNat=o.length-1:=ab
  have e3:=Xv s (i:=i) ab;have e4:((i:Int)+1).toNat=i+1:=ab
  have e5:=XU (t.map pS) (pS x) (pS x++pS [s.data.toList.getD i 0]) ByteArray.empty;rw[<-ho]at e5;have hx:x.length<=1000:=by have:=As c (s.data.toList.take i) x (by rw[e1];simp);rw[List.length_take]at this;omega
  rw[hi,e4,e3,e5.2,e5.1];refine⟨⟨ab,ab⟩,⟨ab,ab⟩,⟨ab,ab⟩,⟨ab,ab⟩,⟨ab,ab,ab⟩,by rw[jj,jj,vE];omega,⟨ab,ab⟩,⟨ab,ab⟩,i+1,_,ab,rfl,ab,?_,by first|omega|(dsimp only;omega)⟩;rw[ht,e2,vq,eY];rfl
end Go.Tv
