import Derived.Test.YtadeehilamokkaaGreatDoorPk11
set_option maxHeartbeats 1000000
set_option maxRecDepth 100000
namespace Go.Tv
open Go Go.Di Go.Proofs
abbrev JO(v:Int->TV)(f:Int->List Prop):sX:=.ex Int λk=>.ex br λr=>.ex Int λz=>.res (v k) (Fh r z) (f k)
def D81:cn->cn->Dn
 |[.ptr 0 0],[.sl (.int .i64) _ .no,.val (.int .u64 z)]=>some ([],JO (λk=>.val (.int .u64 k)) λk=>[0<=k,k<4294967296],[(2,.ex Int λk=>.ex br λr=>.st {sl:=[(3,.val (.int .u64 k))],pl:=[(0,Fh r z)]})])
 |_,_=>none
theorem v81:VC T0 Tryz.f79 [some (.int .u64)] [some gd,some (.int .u64)] D81:=by
 refine xM λa cs=>?_;unfold D81;split
 rotate_left
 trivial;rename_i r z;intro hp;refine Oe (A:=eD (decide ((↑r.length:Int)>0)) (((0:Int)<=0/\0<(↑r.length:Int))/\((0:Int)<=1/\1<=(↑r.length:Int))/\∃(a:Int),∃(x:br),(0:Int)=0/\IntKind.u64.wrap (r.getD 0 0)=a/\List.drop 1 r=x/\z=z/\True) (∃(a:Int),∃(x:br),(0:Int)=0/\0=a/\r=x/\z=z/\True)/\∀(a:Int)(x:br),∃(y:Int),∃(u:br),∃(v:Int),(IntKind.u64.wrap (IntKind.u64.wrap (↑(BitVec.ofInt 64 (IntKind.u64.wrap (↑(BitVec.ofInt 64 (IntKind.u64.wrap (IntKind.u64.wrap (IntKind.u64.wrap (z+a)+6364136223846793005)*15074714826142052245))^^^BitVec.ofInt 64 ((IntKind.u64.wrap (IntKind.u64.wrap (IntKind.u64.wrap (z+a)+6364136223846793005)*15074714826142052245)).fdiv (536870912:Int))).toNat:Int))^^^BitVec.ofInt 64 ((IntKind.u64.wrap (↑(BitVec.ofInt 64 (IntKind.u64.wrap (IntKind.u64.wrap (IntKind.u64.wrap (z+a)+6364136223846793005)*15074714826142052245))^^^BitVec.ofInt 64 ((IntKind.u64.wrap (IntKind.u64.wrap (IntKind.u64.wrap (z+a)+6364136223846793005)*15074714826142052245)).fdiv (536870912:Int))).toNat:Int)).fdiv (8589934592:Int))).toNat:Int)*18397679294719823053)).fdiv 4294967296=y/\x=u/\IntKind.u64.wrap (↑(BitVec.ofInt 64 (IntKind.u64.wrap (IntKind.u64.wrap (IntKind.u64.wrap (z+a)+6364136223846793005)*15074714826142052245))^^^BitVec.ofInt 64 ((IntKind.u64.wrap (IntKind.u64.wrap (IntKind.u64.wrap (z+a)+6364136223846793005)*15074714826142052245)).fdiv (536870912:Int))).toNat:Int)=v/\0<=y/\y<4294967296/\True) (by kernel_rfl) ?_;simp only[lR,oK,qj,qi,vI,xw,and_true,true_and,eq_self];refine⟨⟨λh=>⟨U,U,_,_,rfl,rfl⟩,λh=>⟨_,_,rfl,rfl⟩⟩,λk r1=>⟨_,_,_,rfl,rfl,rfl,(abE rfl).1,(abE rfl).2⟩⟩
def D11:cn->Dn
 |[.sl (.int .i64) l .no]=>some ([],.res .unk (Fh l 1) [],[])
 |_=>none
theorem v11:VN T0 Tryz.f9 [some gd,some (.int .u64)] D11:=by
 refine ae3 λa=>?_;unfold D11;split
 rotate_left
 trivial;rename_i l;intro hp;refine Oe (A:=l=l/\(1:Int)=1/\True) (by kernel_rfl) ?_;exact⟨rfl,rfl,trivial⟩
def R1:iO:=(T0.B2 79 λa c=>dS (D81 a c)).Zn 9 λa=>dS (D11 a)
def D46:cn->cn->Dn
 |[.ptr 0 0,.val (.int .i64 m)],[.sl (.int .i64) _ .no,.val (.int .u64 _)]=>some ([m<=1000,-10000<=m],JO s8 λk=>[0<=k,k<=m\/k=0],[])
 |_,_=>none
theorem v46:VC R1 Tryz.f41 [some nC] [some gd,some (.int .u64)] D46:=by
 refine xM λa cs=>?_;unfold D46;split
 rotate_left
 trivial;rename_i m r z;intro hp;obtain⟨h1,h2,-⟩:=hp;refine Oe (A:=eD (decide (m<=0)) (∃(a:Int),∃(y:br),∃(u:Int),0=a/\r=y/\z=u/\0<=a/\(a<=m\/a=0)/\True) (∀(a:Int)(y:br)(u:Int),0<=a->a<4294967296->xw (m+1)/\∃(x:Int),∃(v:br),∃(w:Int),IntKind.i64.wrap ((IntKind.u64.wrap (a*IntKind.u64.wrap (m+1))).fdiv (4294967296:Int))=x/\y=v/\u=w/\0<=x/\(x<=m\/x=0)/\True)) (by kernel_rfl) ?_;simp only[lR,oK,qj,qi,vI,xw,and_true,true_and,eq_self];exact⟨λh=>⟨0,_,_,rfl,rfl,rfl,U,U⟩,λh k r1 z1 h3 h4=>⟨U,_,_,_,rfl,rfl,rfl,(aa6 h1 U h3 h4).1,(aa6 h1 U h3 h4).2⟩⟩
def R2:iO:=R1.B2 41 λa c=>dS (D46 a c)
def D19:cn->cn->Dn
 |[.ptr 0 0,.val (.int .i64 lo),.val (.int .i64 hi)],[.sl (.int .i64) _ .no,.val (.int .u64 _)]=>some ([-1000<=lo,lo<=1000,-1000<=hi,hi<=1000+lo,hi<=5000],JO s8 λk=>[lo<=k,k<=hi\/k=lo],[])
 |_,_=>none
theorem v19:VC R2 Tryz.f81 [some nC] [some gd,some (.int .u64)] D19:=by
 refine xM λa cs=>?_;unfold D19;split
 rotate_left
 trivial;rename_i lo hi r z;intro hp;obtain⟨h1,h2,h3,h4,h5,-⟩:=hp;refine Oe (A:=xw (hi-lo)/\hi-lo<=1000/\(-10000:Int)<=hi-lo/\∀(a:Int)(y:br)(z:Int),0<=a->a<=hi-lo\/a=0->xw (lo+a)/\∃(x:Int),∃(u:br),∃(v:Int),lo+a=x/\y=u/\z=v/\lo<=x/\(x<=hi\/x=lo)/\True) (by kernel_rfl) ?_;simp only[lR,oK,qj,qi,vI,xw,and_true,true_and,eq_self];exact⟨U,U,U,λk r1 z1 h6 h7=>⟨U,_,_,_,rfl,rfl,rfl,U,U⟩⟩
def D27:cn->cn->Dn
 |[.ptr 0 0,.val (.int .i64 m)],[.sl (.int .i64) _ .no,.val (.int .u64 _)]=>some ([m<=1000,0<=m],.ex Bool λb=>JO (λ_=>zG b) λ_=>[],[])
 |_,_=>none
theorem v27:VC R2 Tryz.f42 [some .bool] [some gd,some (.int .u64)] D27:=by
 refine xM λa cs=>?_;unfold D27;split
 rotate_left
 trivial;rename_i m r z;intro hp;obtain⟨h1,h2,-⟩:=hp;refine Oe (A:=xw (m-1)/\m-1<=1000/\(-10000:Int)<=m-1/\∀(a:Int)(x:br)(y:Int),0<=a->a<=m-1\/a=0->∃(z:Bool),∃(w:Int),∃(u:br),∃(v:Int),(a==IntKind.i64.wrap (m.tdiv (2:Int)))=z/\x=u/\y=v/\True) (by kernel_rfl) ?_;simp only[lR,oK,qj,qi,vI,xw,and_true,true_and,eq_self];exact⟨U,U,U,λk r1 z1 _ _=>⟨_,0,_,_,rfl,rfl,rfl⟩⟩
def D45:cn->cn->Dn
 |[.ptr 0 0,.sl (.int .i64) l .no],[.sl (.int .i64) _ .no,.val (.int .u64 _)]=>some ([0<l.length,l.length<=1000],JO s8 λk=>[k∈l],[])
 |_,_=>none
theorem v45:VC R2 Tryz.f82 [some nC] [some gd,some (.int .u64)] D45:=by
 refine xM λa cs=>?_;unfold D45;split
 rotate_left
 trivial;rename_i l r z;intro hp;obtain⟨h1,h2,-⟩:=hp;refine Oe (A:=xw ((↑l.length:Int)-1)/\(↑l.length:Int)-1<=1000/\(-10000:Int)<=(↑l.length:Int)-1/\∀(a:Int)(y:br)(z:Int),0<=a->a<=(↑l.length:Int)-1\/a=0->(0<=a/\a<(↑l.length:Int))/\∃(x:Int),∃(u:br),∃(v:Int),l.getD a.toNat 0=x/\y=u/\z=v/\x∈l/\True) (by kernel_rfl) ?_;simp only[lR,oK,qj,qi,vI,xw,and_true,true_and,eq_self];exact⟨U,U,U,λk r1 z1 h3 h4=>⟨U,_,_,_,rfl,rfl,rfl,KL U⟩⟩
def R3:iO:=((R2.B2 81 λa c=>dS (D19 a c)).B2 42 λa c=>dS (D27 a c)).B2 82 λa c=>dS (D45 a c)
def D44:cn->cn->Dn
 |[.ptr 0 0,.val (.int .i64 c)],[.sl (.int .i64) _ .no,.val (.int .u64 _)]=>some ([0<=c,c<=100],.ex br λo=>.ex br λr=>.ex Int λz=>.res (.sl nC o .no) (Fh r z) [(o.length:Int)=c,Tx o],
  [(5,.ex Nat λi=>.ex br λo=>.ex br λr=>.ex Int λz=>.st {sl:=[(6,.sl nC o (.o5 1)),(7,s8 i)],pl:=[(0,Fh r z)],own:=[(3,1)],kO:=[(i:Int)<=c,o.length=i,Tx o],m:=c.toNat-i})])
 |_,_=>none
theorem v44:VC R3 Tryz.f80 [some gd] [some gd,some (.int .u64)] D44:=by
 refine xM λa cs=>?_;unfold D44;split
 rotate_left
 trivial;rename_i c r z;intro hp;obtain⟨h1,h2,-⟩:=hp;refine Oe (A:=(7:Int)<=1000/\(-10000:Int)<=7/\∀(a:Int)(x:br)(w:Int),0<=a->a<=7\/a=0->0<3/\3<=1000/\∀(u:Int)(i:br)(h:Int),u∈[(0:Int),(2:Int),a]->(∃(a:Nat),∃(y:br),∃(m:br),∃(r:Int),[]=y/\0=(↑a:Int)/\i=m/\h=r/\(↑a:Int)<=c/\y.length=a/\Tx y/\c.toNat-a<1000000)/\∀(a:Nat)(y m:br)(r:Int),(↑a:Int)<=c->y.length=a->Tx y->eD (decide ((↑a:Int)<c)) (0<4/\4<=1000/\∀(z:Int)(s:br)(n:Int),z∈[(0:Int),(0:Int),(1:Int),(2:Int)]->xw (u+z)/\y.length+1<=1000000000/\xw ((↑a:Int)+1)/\∃(v:Nat),∃(t:br),∃(k:br),∃(j:Int),c=c/\QB nC.den/\u=u/\y++[u+z]=t/\(↑a:Int)+1=(↑v:Int)/\s=k/\n=j/\(↑v:Int)<=c/\t.length=v/\Tx t/\c.toNat-v<c.toNat-a) (∃(a:br),∃(z:br),∃(s:Int),y=a/\m=z/\r=s/\(↑a.length:Int)=c/\Tx a/\True)) (by kernel_rfl) ?_;simp only[lR,oK,qj,qi,vI,xw,and_true,true_and,eq_self];refine⟨U,U,λk1 r1 z1 h3 h4=>⟨U,U,λk2 r2 z2 h5=>?_⟩⟩;have h6:0<=k2/\k2<=7:=by simp at h5;omega
 refine⟨⟨0,[],r2,z2,rfl,rfl,rfl,rfl,h1,rfl,by simp[Tx],U⟩,λi o r3 z3 h6 h7 h8=>⟨λh9=>⟨U,U,λk4 r4 z4 vE=>?_⟩,λh9=>⟨_,_,_,rfl,rfl,rfl,U,h8⟩⟩⟩;have FJ:0<=k4/\k4<=2:=by simp at vE;omega
 exact⟨U,U,U,i+1,_,_,_,rfl,U,rfl,rfl,U,by simp[h7],Ee h8 U,U⟩
def D47:cn->cn->Dn
 |[.ptr 0 0],[.sl (.int .i64) _ .no,.val (.int .u64 _)]=>some ([],.ex br λo=>.ex br λr=>.ex Int λz=>.res (.sl nC o .no) (Fh r z) [o≠[],∀x∈o,0<=x/\x<=3,o.Pairwise (·<·)],
  [(4,.ex Nat λi=>.ex br λo=>.ex br λr=>.ex Int λz=>.st {sl:=[(3,.sl nC o (.o5 1)),(4,s8 i)],pl:=[(0,Fh r z)],own:=[(3,1)],kO:=[i<=4,o.length<=i,∀x∈o,0<=x/\x<i,o.Pairwise (·<·)],m:=4-i})])
 |_,_=>none
theorem v47:VC R3 Tryz.f83 [some gd] [some gd,some (.int .u64)] D47:=by
 refine xM λa cs=>?_;unfold D47;split
 rotate_left
 trivial;rename_i r z;intro hp;refine Oe (A:=(∃(a:Nat),∃(y:br),∃(n:br),∃(k:Int),[]=y/\0=(↑a:Int)/\r=n/\z=k/\a<=4/\y.length<=a/\(∀(x:Int),x∈y->0<=x/\x<(↑a:Int))/\List.Pairwise (λ(x1 x2:Int)=>x1<x2) y/\4-a<1000000)/\∀(a:Nat)(y n:br)(k:Int),a<=4->y.length<=a->(∀(x:Int),x∈y->0<=x/\x<(↑a:Int))->List.Pairwise (λ(x1 x2:Int)=>x1<x2) y->eD (decide ((↑a:Int)<=3)) ((2:Int)<=1000/\(0:Int)<=2/\∀(s:Bool)(t:Int)(j:br)(i:Int),eD s (y.length+1<=1000000000/\xw ((↑a:Int)+1)/\∃(u:Nat),∃(v:br),∃(w:br),∃(m:Int),QB nC.den/\y++[(↑a:Int)]=v/\(↑a:Int)+1=(↑u:Int)/\j=w/\i=m/\u<=4/\v.length<=u/\(∀(x:Int),x∈v->0<=x/\x<(↑u:Int))/\List.Pairwise (λ(x1 x2:Int)=>x1<x2) v/\4-u<4-a) (xw ((↑a:Int)+1)/\∃(u:Nat),∃(v:br),∃(w:br),∃(m:Int),QB nC.den/\y=v/\(↑a:Int)+1=(↑u:Int)/\j=w/\i=m/\u<=4/\v.length<=u/\(∀(x:Int),x∈v->0<=x/\x<(↑u:Int))/\List.Pairwise (λ(x1 x2:Int)=>x1<x2) v/\4-u<4-a)) (eD ((↑y.length:Int)==0) ((3:Int)<=1000/\(-10000:Int)<=3/\∀(a:Int)(s:br)(t:Int),0<=a->a<=3\/a=0->∃(u:br),∃(v:br),∃(w:Int),[a]=u/\s=v/\t=w/\u≠[]/\(∀(x:Int),x∈u->0<=x/\x<=3)/\List.Pairwise (λ(x1 x2:Int)=>x1<x2) u/\True) (∃(a:br),∃(s:br),∃(t:Int),y=a/\n=s/\k=t/\a≠[]/\(∀(x:Int),x∈a->0<=x/\x<=3)/\List.Pairwise (λ(x1 x2:Int)=>x1<x2) a/\True))) (by kernel_rfl) ?_;simp only[lR,oK,qj,qi,vI,xw,and_true,true_and,eq_self];refine⟨⟨0,[],_,_,rfl,rfl,rfl,rfl,U,ab,ab,ab,U⟩,λi o r1 z1 h1 h2 h3 h4=>⟨λh5=>⟨U,U,λb _ r2 z2=>?_⟩,λh5=>⟨λh6=>⟨U,U,λk r2 z2 h7 h8=>⟨_,_,_,rfl,rfl,rfl,ab,by simp;omega,ab⟩⟩,λh6=>⟨_,_,_,rfl,rfl,rfl,λe=>h6 (by rw[e];rfl),λx hx=>by have:=h3 x hx;omega,h4⟩⟩⟩⟩;rw[wH];exact⟨λ_=>⟨U,U,i+1,_,_,_,rfl,U,rfl,rfl,U,by simp;omega,Ee (λx hx=>by have:=h3 x hx;omega) U,XV h4 (λx hx=>(h3 x hx).2),U⟩,λ_=>⟨U,i+1,_,_,_,rfl,U,rfl,rfl,U,U,λx hx=>by have:=h3 x hx;omega,h4,U⟩⟩
def R4:iO:=(R3.B2 80 λa c=>dS (D44 a c)).B2 83 λa c=>dS (D47 a c)
abbrev pcS(f:br->br->Int->br->List Prop):sX:=.ex br λu=>.ex br λl=>.ex Int λw=>.ex br λls=>.ex br λr=>.ex Int λz=>.res (pcV u l w ls) (Fh r z) (f u l w ls)
def D12:cn->cn->Dn
 |[.ptr 0 0,.val (.int .i64 c)],[.sl (.int .i64) _ .no,.val (.int .u64 _)]=>some ([3<=c,c<=8],pcS λu l w ls=>[Ok u l w ls,(u.length:Int)<=c],[])
 |_,_=>none
theorem v12:VC R4 Tryz.f44 [some eG] [some gd,some (.int .u64)] D12:=by
 refine xM λa cs=>?_;unfold D12;split
 rotate_left
 trivial;rename_i c r z;intro hp;obtain⟨h1,h2,-⟩:=hp;refine Oe (A:=(-1000:Int)<=3/\(3:Int)<=1000/\(-1000:Int)<=c/\c<=1003/\c<=5000/\∀(a:Int)(z:br)(y:Int),3<=a->a<=c\/a=3->0<=a/\a<=100/\∀(w X:br)(Y:Int),(↑w.length:Int)=a->Tx w->0<=a/\a<=100/\∀(u h:br)(g:Int),(↑u.length:Int)=a->Tx u->(2:Int)<=1000/\(-10000:Int)<=2/\∀(a:Int)(f:br)(e:Int),0<=a->a<=2\/a=0->0<4/\4<=1000/\∀(r:Int)(d:br)(b:Int),r∈[(0:Int),(0:Int),(1:Int),a]->∀(a n:br)(k:Int),a≠[]->(∀(x:Int),x∈a->0<=x/\x<=3)->List.Pairwise (λ(x1 x2:Int)=>x1<x2) a->∃(v:br),∃(s:br),∃(t:Int),∃(m:br),∃(j:br),∃(i:Int),w=v/\u=s/\r=t/\a=m/\n=j/\k=i/\Ok v s t m/\(↑v.length:Int)<=c/\True) (by kernel_rfl) ?_;simp only[lR,oK,qj,qi,vI,xw,and_true,true_and,eq_self];refine⟨U,U,U,U,U,λn r1 z1 h3 h4=>⟨U,U,λu r2 z2 h5 h6=>⟨U,U,λl r3 z3 h7 h8=>⟨U,U,λk r4 z4 h9 vE=>⟨U,U,λw r5 z5 FJ ls r6 z6 TQ h13 h14=>?_⟩⟩⟩⟩⟩;have h15:0<=w/\w<=2:=by simp at FJ;omega
 exact⟨u,l,w,ls,r6,z6,rfl,rfl,rfl,rfl,rfl,rfl,⟨U,U,U,h6,h8,h15.1,h15.2,TQ,h13,h14⟩,U⟩
def R5:iO:=R4.B2 44 λa c=>dS (D12 a c)
def D13:cn->cn->Dn
 |[.ptr 0 0,.agg [.sl (.int .i64) u .no,.sl (.int .i64) l .no,.val (.int .i64 w),.sl (.int .i64) ls .no]],[.sl (.int .i64) _ .no,.val (.int .u64 _)]=>some ([Ok u l w ls],pcS λu1 l1 w1 ls1=>[Ok u1 l1 w1 ls1,u1=l.map (9-·)],
  [(5,.ex br λu1=>.ex br λl1=>.ex Int λw1=>.ex br λls1=>.ex br λr=>.ex Int λz=>.ex Nat λi=>.st {sl:=[(6,s8 i)],pl:=[(0,Fh r z),(3,[.sl nC ((l.take i).map (9-·)) (.o5 4),.sl nC l1 .no,s8 w1,.sl nC ls1 .no])],own:=[(3,1)],kO:=[i<=l.length,Ok u1 l1 w1 ls1,l1.length=l.length],m:=l.length-i})])
 |_,_=>none
theorem v13:VC R5 Tryz.f43 [some eG] [some gd,some (.int .u64)] D13:=by
 refine xM λa cs=>?_;unfold D13;split
 rotate_left
 trivial;rename_i u l w ls r z;intro hp;have h1:=hp.1;refine Oe (A:=3<=(↑u.length:Int)/\(↑u.length:Int)<=8/\∀(a y:br)(z:Int)(d X:br)(Y:Int),Ok a y z d->(↑a.length:Int)<=(↑u.length:Int)->0<=(↑u.length:Int)/\(↑u.length:Int)<=100/\∀(a c:br)(b:Int),(↑a.length:Int)=(↑u.length:Int)->Tx a->(∃(s:br),∃(r:br),∃(t:Int),∃(n:br),∃(i:br),∃(v:Int),∃(h:Nat),0=(↑h:Int)/\c=i/\b=v/\[]=List.map (λ(x:nC.den)=>(9:nC.den)-x) (List.take h l)/\a=r/\z=t/\d=n/\h<=l.length/\Ok s r t n/\r.length=l.length/\l.length-h<1000000)/\∀(a s:br)(r:Int)(t n:br)(i:Int)(v:Nat),v<=l.length->Ok a s r t->s.length=l.length->eD (decide ((↑v:Int)<(↑l.length:Int))) ((0<=(↑v:Int)/\(↑v:Int)<(↑l.length:Int))/\xw ((9:Int)-l.getD v 0)/\(List.map (λ(x:nC.den)=>(9:nC.den)-x) (List.take v l)).length+1<=1000000000/\xw ((↑v:Int)+1)/\∃(a:br),∃(m:br),∃(k:Int),∃(j:br),∃(f:br),∃(e:Int),∃(g:Nat),(↑v:Int)+1=(↑g:Int)/\n=f/\i=e/\u=u/\l=l/\w=w/\ls=ls/\(0:Int)=0/\List.map (λ(x:nC.den)=>(9:nC.den)-x) (List.take v l)++[(9:Int)-l.getD v 0]=List.map (λ(x:nC.den)=>(9:nC.den)-x) (List.take g l)/\s=m/\r=k/\t=j/\g<=l.length/\Ok a m k j/\m.length=l.length/\l.length-g<l.length-v) (∃(a:br),∃(m:br),∃(k:Int),∃(j:br),∃(f:br),∃(e:Int),List.map (λ(x:nC.den)=>(9:nC.den)-x) (List.take v l)=a/\s=m/\r=k/\t=j/\n=f/\i=e/\Ok a m k j/\a=List.map (λ(x:nC.den)=>(9:nC.den)-x) l/\True)) (by kernel_rfl) ?_;simp only[lR,oK,qj,qi,vI,xw,and_true,true_and,eq_self];have:=h1.n3;have:=h1.n8;have:=h1.len;refine⟨U,U,λu1 l1 w1 ls1 r1 z1 h2 h3=>⟨U,U,λo r2 z2 h4 h5=>⟨⟨o,o,w1,ls1,r2,z2,0,rfl,rfl,rfl,rfl,rfl,rfl,rfl,U,⟨U,U,rfl,h5,h5,h2.w0,h2.w2,h2.ne,h2.lie,h2.asc⟩,U,U⟩,λu3 o w ls r3 z3 i h6 h7 h8=>⟨λh9=>?_,λh9=>?_⟩⟩⟩⟩;have:=h1.hl _ (KL (l:=l) (i:=i) U);exact⟨U,U,by simp;omega,U,u3,o,w,ls,r3,z3,i+1,U,rfl,rfl,Fv (f:=λx=>9-x) U,rfl,rfl,rfl,U,h7,h8,U⟩;rw[show i=l.length by omega,mF];exact⟨_,o,w,ls,r3,z3,rfl,rfl,rfl,rfl,rfl,rfl,Xb h7 h8 h1.hl,rfl⟩
def R6:iO:=R5.B2 43 λa c=>dS (D13 a c)
section
variable {cE:bR} (tk:QJ cE)
include tk
theorem aer:rq cE 1 R1:=mkN tk (AX tk) ae Tryz.func9 rfl v11 (Yr (AX tk) Tryz.func79 rfl v81 (tH (AX tk)))
theorem YU:rq cE 2 R2:=Yr (aer tk) Tryz.func41 rfl v46 (tH (aer tk))
theorem ab6:rq cE 3 R3:=Yr (YU tk) Tryz.func82 rfl v45 (Yr (YU tk) Tryz.func42 rfl v27 (Yr (YU tk) Tryz.func81 rfl v19 (tH (YU tk))))
theorem aeq:rq cE 4 R4:=Yr (ab6 tk) Tryz.func83 rfl v47 (Yr (ab6 tk) Tryz.func80 rfl v44 (tH (ab6 tk)))
theorem aep:rq cE 5 R5:=Yr (aeq tk) Tryz.func44 rfl v12 (tH (aeq tk))
theorem ag6:rq cE 6 R6:=Yr (aep tk) Tryz.func43 rfl v13 (tH (aep tk))
end
end Go.Tv
namespace Go.Tv
open Go Go.Di Go.Proofs
def YM(p:eG.den):Prop:=Ok p.1 p.2.1 p.2.2.1 p.2.2.2.1
abbrev dP:PD:=([],[],(0:Int),[],())
theorem OW{α:Type}(d:α){l:List α}{i:Nat}(h:i<l.length):l.take (i+1)=l.take i++[l.getD i d]:=by rw[List.take_add_one,bn h];simp[aP,h]
theorem afr{p q:PD}:(p.1=q.1/\p.2.1=q.2.1/\p.2.2.1=q.2.2.1/\p.2.2.2.1=q.2.2.2.1)↔p=q:=by obtain⟨a,b,c,d,_⟩:=p;obtain⟨a',b',c',d',_⟩:=q;simp
def D25:cn->Dn
 |[.sl (.int .i64) l .no,.sl (.int .i64) m .no]=>some ([l.length<=1000,m.length<=1000],.res (zG (decide (l=m))) [] [],[(4,.ex Nat λi=>.ex Bool λb=>.st {sl:=[(5,zG b),(6,s8 i)],kO:=[i<=l.length,b=decide (l.length=m.length/\l.take i=m.take i)],m:=l.length-i})])
 |_=>none
def v25.q1 (p0:List nC.den)(p1:Int)(p2:Nat)(p3 p4:Bool)(p5:Nat):Prop:=p1=(↑p2:Int)/\p2<=p0.length/\p3=p4/\(p0.length-p2)<p5
theorem v25:VI T0 Tryz.f23 [some .bool] D25:=by
 refine Ou λa=>?_;unfold D25;split
 rotate_left
 trivial;rename_i l m;intro hp;refine Oe (A:=(∃(a:Nat),∃(x:Bool),((↑l.length:Int)==(↑m.length:Int))=x/\v25.q1 l (0:Int) a x (decide (l.length=m.length/\List.take a l=List.take a m)) 1000000)/\∀(a:Nat)(x:Bool),a<=l.length->x=decide (l.length=m.length/\List.take a l=List.take a m)->eD x (eD (decide ((↑a:Int)<(↑l.length:Int))) ((0<=(↑a:Int)/\(↑a:Int)<(↑l.length:Int))/\(0<=(↑a:Int)/\(↑a:Int)<(↑m.length:Int))/\xw ((↑a:Int)+1)/\∃(y:Nat),∃(z:Bool),l=l/\m=m/\false=false/\(l.getD a 0==m.getD a 0)=z/\v25.q1 l ((↑a:Int)+1) y z (decide (l.length=m.length/\List.take y l=List.take y m)) (l.length-a)) (x=decide (l=m)/\True)) (x=decide (l=m)/\True)) (by kernel_rfl) ?_;unfold v25.q1;obtain⟨h1,h2,-⟩:=hp;simp only[lR,oK,xw,and_true,true_and,eq_self];refine⟨⟨0,_,rfl,rfl,U,?_,U⟩,λi b h3 h4=>?_⟩;rw[Bool.eq_iff_iff];simp;omega
 rw[wH];subst h4;simp only[bP,decide_eq_false_iff_not];refine⟨λh5=>⟨λh6=>⟨U,U,U,i+1,_,rfl,U,U,?_,U⟩,λh6=>?_⟩,λh5=>?_⟩;rw[Bool.eq_iff_iff,bP,take_one U,take_one U,dL];refine⟨λh=>⟨h5.1,by rw[h5.2,h]⟩,λh=>?_⟩;have:=List.append_inj_right' h.2 rfl;simpa using this;rw[decide_eq_decide];have e1:=h5.2;rw[List.take_of_length_le U,List.take_of_length_le U]at e1;exact⟨λ_=>e1,λh=>h5⟩;rw[decide_eq_decide];exact⟨λh=>absurd h h5,λh=>by subst h;exact absurd ⟨rfl,rfl⟩ h5⟩
def R7:iO:=T0.zH 23 λa=>dS (D25 a)
def D26:cn->Dn
 |[.agg [.sl (.int .i64) au .no,.sl (.int .i64) al .no,.val (.int .i64 aw),.sl (.int .i64) aq .no],.agg [.sl (.int .i64) bu .no,.sl (.int .i64) bl .no,.val (.int .i64 bw),.sl (.int .i64) bq .no]]=>some ([Sh au al aq,Sh bu bl bq],.res (zG (decide (au=bu/\al=bl/\aw=bw/\aq=bq))) [] [],[])
 |_=>none
theorem v26:VI R7 Tryz.f37 [some .bool] D26:=by
 refine Ou λa=>?_;unfold D26;split
 rotate_left
 trivial;rename_i u l w ls u2 l2 w2 ls2;intro hp;refine Oe (A:=u.length<=1000/\u2.length<=1000/\eD (decide (u=u2)) (l.length<=1000/\l2.length<=1000/\eD (decide (l=l2)) (eD (w==w2) (ls.length<=1000/\ls2.length<=1000/\decide (ls=ls2)=decide (u=u2/\l=l2/\w=w2/\ls=ls2)/\True) (false=decide (u=u2/\l=l2/\w=w2/\ls=ls2)/\True)) (false=decide (u=u2/\l=l2/\w=w2/\ls=ls2)/\True)) (false=decide (u=u2/\l=l2/\w=w2/\ls=ls2)/\True)) (by kernel_rfl) ?_;obtain⟨⟨a1,a2,a3⟩,⟨b1,b2,b3⟩,-⟩:=hp;simp only[lR,oK,and_true];refine⟨a1,b1,λh1=>⟨a2,b2,λh2=>⟨λh3=>⟨a3,b3,?_⟩,λh3=>?_⟩,λh2=>?_⟩,λh1=>?_⟩;rw[decide_eq_decide];exact⟨λh=>⟨h1,h2,h3,h⟩,λh=>h.2.2.2⟩
 rw[rN λh=>h3 h.2.2.1];rw[rN λh=>h2 h.2.1];rw[rN λh=>h1 h.1]
def R8:iO:=T0.zH 37 λa=>dS (D26 a)
def ac0:cn->Dn
 |[.sl (.pair (.sl (.int .i64)) (.pair (.sl (.int .i64)) (.pair (.int .i64) (.pair (.sl (.int .i64)) .unit)))) l .no,.sl (.pair (.sl (.int .i64)) (.pair (.sl (.int .i64)) (.pair (.int .i64) (.pair (.sl (.int .i64)) .unit)))) m .no]=>some ([l.length<=1000,m.length<=1000,∀p∈l,zK p,∀p∈m,zK p],.ex Bool λb=>.res (zG b) [] [b=true↔l=m],
  [(4,.ex Nat λi=>.ex Bool λb=>.st {sl:=[(5,zG b),(6,s8 i)],kO:=[i<=l.length,b=true↔(l.length=m.length/\l.take i=m.take i)],m:=l.length-i})])
 |_=>none
def TU.q1 (p0 p1:cJ)(p2 p3:Bool)(p4:Int)(p5 p6:Nat):Prop:=p2=p3/\p4=(↑p5:Int)/\p5<=p0.length/\(p3=true↔p0.length=p1.length/\List.take p5 p0=List.take p5 p1)/\(p0.length-p5)<p6
theorem TU:VI R8 Tryz.f16 [some .bool] ac0:=by
 refine Ou λa=>?_;unfold ac0;split
 rotate_left
 trivial;rename_i l m;change cJ at l m;intro hp;refine Oe (A:=(∃(a:Nat),∃(x:Bool),TU.q1 l m ((↑l.length:Int)==(↑m.length:Int)) x (0:Int) a 1000000)/\∀(a:Nat)(x:Bool),a<=l.length->(x=true↔l.length=m.length/\List.take a l=List.take a m)->eD x (eD (decide ((↑a:Int)<(↑l.length:Int))) ((0<=(↑a:Int)/\(↑a:Int)<(↑l.length:Int))/\(0<=(↑a:Int)/\(↑a:Int)<(↑m.length:Int))/\Sh (l.getD a bm).1 (l.getD a bm).2.1 (l.getD a bm).2.2.2.1/\Sh (m.getD a bm).1 (m.getD a bm).2.1 (m.getD a bm).2.2.2.1/\xw ((↑a:Int)+1)/\∃(y:Nat),∃(z:Bool),l=l/\m=m/\false=false/\TU.q1 l m (decide ((l.getD a bm).1=(m.getD a bm).1/\(l.getD a bm).2.1=(m.getD a bm).2.1/\(l.getD a bm).2.2.1=(m.getD a bm).2.2.1/\(l.getD a bm).2.2.2.1=(m.getD a bm).2.2.2.1)) z ((↑a:Int)+1) y (l.length-a)) (∃(a:Bool),x=a/\(a=true↔l=m)/\True)) (∃(a:Bool),x=a/\(a=true↔l=m)/\True)) (by kernel_rfl) ?_;unfold TU.q1;obtain⟨h1,h2,s1,s2,-⟩:=hp;refine⟨⟨0,_,rfl,rfl,U,by simp;omega,by first|omega|(dsimp only;omega)⟩,λi b h3 h4=>wH.2 ⟨λh5=>lR.2 ⟨λh6=>?_,λh6=>⟨_,rfl,?_,trivial⟩⟩,λh5=>⟨_,rfl,?_,trivial⟩⟩⟩;.have h5:=h4.1 h5;refine⟨⟨U,U⟩,⟨U,U⟩,D2 U s1,D2 U s2,⟨U,U⟩,i+1,_,rfl,rfl,rfl,rfl,U,U,?_,by first|omega|(dsimp only;omega)⟩;rw[decide_eq_true_iff,afr,OW dP U,OW dP U];refine⟨λh=>⟨h5.1,by rw[h5.2,h]⟩,λh=>?_⟩;have:=List.append_inj_right' h.2 rfl;simpa using this
 have h5:=h4.1 h5;have e1:=h5.2;rw[List.take_of_length_le U,List.take_of_length_le U]at e1;rw[h4];exact⟨λ_=>e1,λh=>h5⟩;subst h5;rw[h4];refine⟨λh=>absurd (h4.2 h) ae,λh=>?_⟩;subst h;exact absurd (h4.2 ⟨rfl,rfl⟩) ae
def zJ(l:cJ):Prop:=l.length<=1000/\∀p∈l,zK p
structure Uj (cE:bR) (W:cJ->ByteArray×Int) (R:ByteArray->cJ×Int×Int):Prop where
 w:∀(l:cJ) d,zJ l->RT gC [] (.sl eG l .no) d->∃r,cE 10 [d]=some r/\r.pure=true/\RT gC [] (.tup [.val (.string (W l).1),s8 (W l).2]) r
 r:∀s:ByteArray,s.size<=100000->∃r,cE 14 [.val (.string s)]=some r/\r.pure=true/\RT gC [] (.tup [.sl eG (R s).1 .no,s8 (R s).2.1,s8 (R s).2.2]) r
 wr:∀l:cJ,l.length<=4->(∀p∈l,YM p)->(W l).2=0/\(W l).1.size<=100000/\R (W l).1=(l,0,0)
 rw:∀s l n,R s=(l,n,0)->W l=(s,0)/\zJ l
def S10(W:cJ->ByteArray×Int):cn->Sp
 |[.sl (.pair (.sl (.int .i64)) (.pair (.sl (.int .i64)) (.pair (.int .i64) (.pair (.sl (.int .i64)) .unit)))) l .no]=>some ([zJ l],.ex ByteArray λb=>.ex Int λe=>.res (.tup [.val (.string b),s8 e]) [] [W l=(b,e)])
 |_=>none
def S14(R:ByteArray->cJ×Int×Int):cn->Sp
 |[.val (.string s)]=>some ([s.size<=100000],.ex cJ λl=>.ex Int λn=>.ex Int λe=>.res (.tup [.sl eG l .no,s8 n,s8 e]) [] [R s=(l,n,e)])
 |_=>none
def ac8(te:cn)(i:Nat)(k:Nat->LA):LA:=
 match te.getD i .unk with
 |.ptr p _=>k p
 |_=>.un 0
def aeZ(te:cn)(i:Nat)(k:Int->LA):LA:=
 match te.getD i .unk with
 |.val (.int .i64 n)=>k n
 |_=>.un 0
def J8:List (Nat×LA):=[(4,.dep λte tS=>aeZ te 6 λk=>ac8 te 0 λp=>.ex Nat λm=>.ex (List eG.den) λl=>.ex br λr=>.ex Int λz=>.st {sl:=[(5,.sl eG l (.o5 tS.length)),(6,s8 m)],pl:=[(p,Fh r z)],own:=[(42,4)],kO:=[(l.length+m:Int)<=k\/(l.length+m:Int)=0,∀p∈l,YM p],m:=m})]
section
variable (W:cJ->ByteArray×Int) (R:ByteArray->cJ×Int×Int)
noncomputable def R9:iO:=(((((R6.zH 23 λa=>dS (D25 a)).zH 37 λa=>dS (D26 a)).zH 16 λa=>dS (ac0 a)).zH 10 (S10 W)).zH 14 (S14 R)).acT 8 Tryz.f8 J8
end
def D4:cn->Dn
 |[.sl (.int .i64) wC .no,.val (.string text)]=>some ([],.res (zG true) [] [],[])
 |_=>none
def v4.q1 (p0:List eG.den)(p1:Nat)(p2:Int)(p3:br)(p4:Int)(p5 p6:br)(p7:Int)(p8 p9:br)(p10:Int):Prop:=p0.length+1<=1000000000/\xw ((↑p1:Int)-1)/\∃(a:Nat),∃(x:List eG.den),∃(y:br),∃(z:Int),QB eG.den/\p0++[(p5,p6,p7,p8,())]=x/\(↑p1:Int)-1=(↑a:Int)/\p9=y/\p10=z/\((↑x.length:Int)+(↑a:Int)<=p2\/(↑x.length:Int)+(↑a:Int)=0)/\(∀(p:eG.den),p∈x->YM p)/\(a)<(p1)
theorem v4{cE:bR}{W:cJ->ByteArray×Int}{R:ByteArray->cJ×Int×Int}(ts:Uj cE W R):VI (R9 W R) Tryz.f4 [some .bool] D4 1:=by
 refine Ou λa=>?_;unfold D4;split
 rotate_left
 trivial;rename_i wC text;intro hp;refine Oe (A:=eD (decide ((↑text.size:Int)>150)) (true=true/\True) ((4:Int)<=1000/\(-10000:Int)<=4/\∀(a:Int)(y:br)(c:Int),0<=a->a<=4\/a=0->(∃(v:Nat),∃(z:List eG.den),∃(j:br),∃(i:Int),[]=z/\a=(↑v:Int)/\y=j/\c=i/\((↑z.length:Int)+(↑v:Int)<=a\/(↑z.length:Int)+(↑v:Int)=0)/\(∀(p:eG.den),p∈z->YM p)/\(v)<1000000)/\∀(v:Nat)(z:List eG.den)(j:br)(i:Int),(↑z.length:Int)+(↑v:Int)<=a\/(↑z.length:Int)+(↑v:Int)=0->(∀(p:eG.den),p∈z->YM p)->eD (decide ((↑v:Int)>0)) (eD (decide ((↑z.length:Int)>0)) ((2:Int)<=1000/\(0:Int)<=2/\∀(s:Bool)(t:Int)(k:br)(m:Int),eD s (xw ((↑z.length:Int)-1)/\(↑z.length:Int)-1<=1000/\(-10000:Int)<=(↑z.length:Int)-1/\∀(u:Int)(r:br)(n:Int),0<=u->u<=(↑z.length:Int)-1\/u=0->(0<=u/\u<(↑z.length:Int))/\Ok (z.getD u.toNat bm).1 (z.getD u.toNat bm).2.1 (z.getD u.toNat bm).2.2.1 (z.getD u.toNat bm).2.2.2.1/\∀(w h:br)(g:Int)(f e:br)(d:Int),Ok w h g f->w=List.map (λ(x:nC.den)=>(9:nC.den)-x) (z.getD u.toNat bm).2.1->v4.q1 z v a j i w h g f e d) ((3:Int)<=5/\(5:Int)<=8/\∀(u r:br)(n:Int)(w h:br)(g:Int),Ok u r n w->(↑u.length:Int)<=5->v4.q1 z v a j i u r n w h g)) ((3:Int)<=5/\(5:Int)<=8/\∀(s t:br)(k:Int)(m u:br)(r:Int),Ok s t k m->(↑s.length:Int)<=5->v4.q1 z v a j i s t k m u r)) (zJ z/\∀(a:ByteArray)(s:Int),W z=(a,s)->a.size<=100000/\∀(t:cJ)(k m:Int),R a=(t,k,m)->eD (s !=0) (false=true/\True) (eD (m !=0) (false=true/\True) (eD (k !=0) (false=true/\True) (z.length<=1000/\t.length<=1000/\(∀(p:(eG).den),p∈z->zK p)/\(∀(p:(eG).den),p∈t->zK p)/\∀(a:Bool),(a=true↔z=t)->eD (!a) (false=true/\True) (text.size<=100000/\∀(a:cJ)(u r:Int),R text=(a,u,r)->eD (r !=0) (true=true/\True) (zJ a/\∀(n:ByteArray)(w:Int),W a=(n,w)->eD (w==0) (eD (n.toList==text.toList) (true=true/\True) (false=true/\True)) (false=true/\True))))))))) (by kernel_rfl) ?_;unfold v4.q1;change br at wC;change ByteArray at text;simp only[lR,qj,qi,vI,xw,and_true,true_and,eq_self];refine⟨λ_=>trivial,λh0=>⟨U,U,λk r z hk0 hk=>⟨⟨k.toNat,[],_,_,rfl,U,rfl,rfl,by simp;omega,ab,by first|omega|(dsimp only;omega)⟩,λm l r1 z1 hm hl=>?_⟩⟩⟩;change cJ at l;have key:∀(u lo:br)(w:Int)(q r':br)(z':Int),0<m->Ok u lo w q->(l.length+1<=1000000000/\(-9223372036854775808<=(m:Int)-1/\(m:Int)-1<=9223372036854775807)/\∃(a:Nat)(a1:cJ)(a2:br)(a3:Int),l++[(u,lo,w,q,())]=a1/\(m:Int)-1=(a:Int)/\r'=a2/\z'=a3/\((a1.length:Int)+a<=k\/(a1.length:Int)+a=0)/\(∀p∈a1,YM p)/\a<m):=λu lo w q r' z' h1 ho=>by refine⟨U,U,m-1,_,_,_,rfl,U,rfl,rfl,by simp;omega,Ee hl ho,U⟩
 refine⟨λh1=>⟨λh2=>⟨U,U,λb _ r2 z2=>wH.2 ⟨λhb=>⟨U,U,U,λj r3 z3 TE hj=>⟨⟨U,U⟩,D2 (P:=YM) U hl,λu lo w q r4 z4 ho hu=>key u lo w q r4 z4 U ho⟩⟩,λhb=>⟨U,U,λu lo w q r4 z4 ho _=>key u lo w q r4 z4 U ho⟩⟩⟩,λh2=>⟨U,U,λu lo w q r4 z4 ho _=>key u lo w q r4 z4 U ho⟩⟩,λh1=>?_⟩;have sh:∀p∈l,zK p:=λp hp=>by obtain⟨a,b,c⟩:=ae9 (hl p hp);exact⟨a,b,c⟩
 obtain⟨w1,w2,w3⟩:=ts.wr l U hl;refine⟨⟨U,sh⟩,λb e he=>?_⟩;rw[he]at w1 w2 w3;obtain rfl:e=0:=w1;refine⟨w2,λl' n f hf=>?_⟩;obtain⟨rfl,rfl,rfl⟩:l=l'/\0=n/\0=f:=by rw[w3]at hf;simpa using hf
 refine⟨λ_=>⟨λ_=>⟨λ_=>⟨U,U,sh,sh,λb' hb=>?_⟩,λh=>absurd rfl h⟩,λh=>absurd rfl h⟩,λh=>absurd rfl h⟩;obtain rfl:b'=true:=hb.2 rfl;refine⟨U,λx n e hr=>⟨λhe=>?_,λ_=>trivial⟩⟩;subst he;obtain⟨y1,y2⟩:=ts.rw text x n hr;refine⟨y2,λc d hc=>?_⟩;obtain⟨rfl,rfl⟩:text=c/\0=d:=by rw[y1]at hc;simpa using hc
 simp[eD]
section
variable {cE:bR} {W:cJ->ByteArray×Int} {R:ByteArray->cJ×Int×Int} (tk:QJ cE) (ts:Uj cE W R)
theorem zI{k:Nat}{T:iO}(h:rq cE k T):∀m,rq cE (m+k) T
 |0=>by rwa [eN]
 |m+1=>by have:=tH (zI h m);rwa [Nat.add_right_comm]at this
theorem agM{T:iO}{k:Nat}(ts:Uj cE W R)(hT:rq cE k T):rq cE k (T.zH 10 (S10 W)):=Um hT λn a p s hs hp=>by unfold S10 at hs;split at hs;rename_i l;cases hs;intro bT hd;obtain⟨d,_,rfl,h1,h2⟩:=ax hd;rw[aN h2];obtain⟨r,k1,k2,k3⟩:=ts.w l d hp.1 h1;exact⟨r,_,by simp only[CX,lK,k1,k2,if_true],k2,k3,rfl,_,_,rfl,rfl,trivial⟩;cases hs
theorem agL{T:iO}{k:Nat}(ts:Uj cE W R)(hT:rq cE k T):rq cE k (T.zH 14 (S14 R)):=Um hT λn a p s hs hp=>by
 unfold S14 at hs;split at hs;rename_i b;cases hs;intro bT hd;obtain⟨d,_,rfl,h1,h2⟩:=ax hd;rw[aN h2];have h1:d=.val (.string b):=by cases d<;>simp only[RT]at h1;rw[h1]
 subst h1;obtain⟨r,k1,k2,k3⟩:=ts.r b hp.1;exact⟨r,_,by simp only[CX,lK,k1,k2,if_true],k2,k3,rfl,_,_,_,rfl,rfl,trivial⟩;cases hs
include tk
theorem aeo:rq cE 1 R7:=mkI tk (AX tk) ae Tryz.func23 rfl v25 (tH (AX tk))
theorem ag5:rq cE 2 R8:=mkI tk (aeo tk) ae Tryz.func37 rfl v26 (zI (AX tk) 2)
include ts
theorem ag4:rq cE 6 (R9 W R):=ae4 (agL ts (agM ts (mkI tk (zI (ag5 tk) 3) ae Tryz.func16 rfl TU (mkI tk (zI (aeo tk) 4) ae Tryz.func37 rfl v26 (mkI tk (zI (AX tk) 5) ae Tryz.func23 rfl v25 (ag6 tk)))))) Tryz.func8 rfl
theorem Xs(n:Nat)(wC:br)(text:ByteArray):tE (Js cE (n+8)) 4 [.sl nC wC .no,.val (.string text)] (λv=>v=zG true):=
 (((mkI tk (ag4 tk ts) ae Tryz.func4 rfl (v4 ts) (T':=T0) (zI (AX tk) 8)).2 n).I 4 [.sl nC wC .no,.val (.string text)] [] (.res (zG true) [] []) rfl trivial).mono λv hv=>hv.1
end
end Go.Tv
