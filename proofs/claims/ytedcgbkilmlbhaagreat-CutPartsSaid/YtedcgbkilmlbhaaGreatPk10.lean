import Derived.Test.YtedcgbkilmlbhaaGreatPk09
section
namespace Go.Tv
open Go Go.Di Go.Proofs
set_option maxRecDepth 100000
def D53:List TV→Dn
  | [.sl (.int .i64) l .no,.val (.int .i64 x)]=>some ([l.length≤1000],.res (o6 (decide (x∈l))) [] [],[(3,.ex Nat fun i => .st { sl:=[(5,dn i)],eF:=[i≤l.length,x ∉ l.take i],m:=l.length-i })])
  | _=>none
theorem v53:VI T0 Tryz.f97 [some .bool] D53:=by
  intro a p s j h hp
  unfold D53 at h
  split at h<;>cases h
  rename_i l x
  have h1:=hp.1
  refine vY (A:=(∃ (a:Nat),0=(↑a:Int)∧a≤l.length∧¬x∈List.take a l∧l.length-a<1000000)∧∀ (a:Nat),a≤l.length→¬x∈List.take a l→aN (decide ((↑a:Int)<(↑l.length:Int))) ((0≤(↑a:Int)∧(↑a:Int)<(↑l.length:Int))∧aN (l.getD a 0==x) (true=decide (x∈l)∧True) (dZ ((↑a:Int)+1)∧∃ (a_3:Nat),l=l∧x=x∧(↑a:Int)+1=(↑a_3:Int)∧a_3≤l.length∧¬x∈List.take a_3 l∧l.length-a_3<l.length-a)) (false=decide (x∈l)∧True)) (by kernel_rfl) ?_
  simp only[cC,cM,cL,c9,gE,dZ,and_true,true_and,eq_self]
  refine⟨⟨0,by omega,by omega,by simp,by omega⟩,fun i h2 h3=>⟨fun h4=>⟨by omega,fun h5 => ?_,fun h5=>⟨by omega,i+1,by omega,by omega,?_,by omega⟩⟩,fun h4 => ?_⟩⟩
  · rw[iF]; rw[← h5]; exact jV (by omega)
  · rw[take_one (by omega)]; simp only[jO,bH,not_or]; exact⟨h3,fun e=>h5 e.symm⟩
  · rw[show i=l.length by omega,fo] at h3; rw[fe h3]
def D52:List TV→Dn
  | [.sl (.int .i64) l .no]=>some ([l.length≤1000],.res (.sl bZ l.reverse .no) [] [],[(4,.ex Nat fun i => .st { sl:=[(3,.sl bZ ((l.drop i).reverse) (.oR 0)),(4,dn ((i:Nat)-1:Int))],own:=[(3,1)],eF:=[i≤l.length],m:=i })])
  | _=>none
theorem v52:VI T0 Tryz.f119 [some cE] D52:=by
  intro a p s j h hp
  unfold D52 at h
  split at h<;>cases h
  rename_i l
  have h1:=hp.1
  refine vY (A:=dZ ((↑l.length:Int)-1)∧(∃ (a:Nat),[]=(List.drop a l).reverse∧(↑l.length:Int)-1=(↑a:Int)-1∧a≤l.length∧a<1000000)∧∀ (a:Nat),a≤l.length→aN (decide ((↑a:Int)-1≥0)) ((0≤(↑a:Int)-1∧(↑a:Int)-1<(↑l.length:Int))∧(List.drop a l).reverse.length+1≤1000000000∧dZ ((↑a:Int)-1-1)∧∃ (a_2:Nat),l=l∧yI bZ.den∧(List.drop a l).reverse++[l.getD ((↑a:Int)-1).toNat (0:Int)]=(List.drop a_2 l).reverse∧(↑a:Int)-1-1=(↑a_2:Int)-1∧a_2≤l.length∧a_2<a) ((List.drop a l).reverse=l.reverse∧True)) (by kernel_rfl) ?_
  simp only[cC,cM,cL,c9,gE,dZ,and_true,true_and,eq_self]
  refine⟨by omega,⟨l.length,by simp,by omega,by omega,by omega⟩,fun i h2=>⟨fun h3=>⟨by omega,by simp; omega,by omega,i-1,?_,by omega,by omega,by omega⟩,fun h3 => ?_⟩⟩
  · obtain⟨j,rfl⟩:∃ j,i=j+1:=⟨i-1,by omega⟩
    rw[show ((j+1:Nat):Int)-1=(j:Int) by omega,Int.toNat_natCast,drop_one (by omega)]; rfl
  · rw[show i=0 by omega,kL]
def D97:List TV→List TV→Dn
  | [.val (.int .i64 x),.ptr 0 0],[.val (.int .i64 dF)]=>some ([],.res (o6 (!lg dF x)) [dn dF] [],[])
  | _,_=>none
theorem v97:VC T0 Tryz.f121 [some .bool] [some bZ] D97:=by
  intro a cs p s j h hp
  unfold D97 at h
  split at h<;>cases h
  rename_i x dF
  refine vY (A:=aN (decide (x<0)) (true = !lg dF x∧dF=dF∧True) (decide (x>dF) = !lg dF x∧dF=dF∧True)) (by kernel_rfl) ?_
  simp only[cC,cM,cL,c9,gE,dZ,and_true,true_and,eq_self]
  refine⟨fun h => ?_,fun h => ?_⟩
  · rw[lg,fe (by omega)]; rfl
  · rw[lg,← decide_not,nE]; omega
def T1:gD:=((T0.dX 97 fun a=>dS (D53 a)).dX 119 fun a=>dS (D52 a)).sR 121 fun a c=>dS (D97 a c)
def Xt:List TV→List TV→Dn
  | [.sl (.int .i64) l .no,.fn 121 [] [.ptr 0 0]],[.val (.int .i64 dF)]=>some ([l.length≤1000],.ex Int fun k => .res (dn k) [dn dF] [if l.all (lg dF) then k = -1 else 0≤k],[(3,.ex Nat fun i => .st { sl:=[(8,dn i)],eF:=[i≤l.length,(l.take i).all (lg dF)=true],m:=l.length-i })])
  | _,_=>none
theorem v109:VC T1 Tryz.f132 [some bZ] [some bZ] Xt:=by
  intro a cs p s j h hp
  unfold Xt at h
  split at h<;>cases h
  rename_i l dF
  have h1:=hp.1
  refine vY (A:=(∃ (a:Nat),0=(↑a:Int)∧a≤l.length∧(List.take a l).all (lg dF)=true∧l.length-a<1000000)∧∀ (a:Nat),a≤l.length→(List.take a l).all (lg dF)=true→aN (decide ((↑a:Int)<(↑l.length:Int))) ((0≤(↑a:Int)∧(↑a:Int)<(↑l.length:Int))∧aN (!lg dF (l.getD a 0)) (∃ (a_3:Int),(↑a:Int)=a_3∧dF=dF∧(if l.all (lg dF)=true then a_3=(-1:Int) else 0≤a_3)∧True) (dZ ((↑a:Int)+1)∧∃ (a_3:Nat),l=l∧(↑l.length:Int)=(↑l.length:Int)∧(↑a:Int)+1=(↑a_3:Int)∧dF=dF∧a_3≤l.length∧(List.take a_3 l).all (lg dF)=true∧l.length-a_3<l.length-a)) (∃ (a:Int),(-1:Int)=a∧dF=dF∧(if l.all (lg dF)=true then a=(-1:Int) else 0≤a)∧True)) (by kernel_rfl) ?_
  simp only[cC,cM,cL,c9,gE,dZ,and_true,true_and,eq_self]
  refine⟨⟨0,by omega,by omega,by simp,by omega⟩,fun i h2 h3=>⟨fun h4=>⟨by omega,?_⟩,fun h4 => ?_⟩⟩
  · rw[lq]
    refine⟨fun h5=>⟨by omega,i+1,by omega,by omega,KV (by omega) h3 h5,by omega⟩,fun h5=>⟨_,rfl,?_⟩⟩
    rw[Kg (i:=i) (by omega) h5]; simp
  · rw[show i=l.length by omega,fo] at h3; exact⟨_,rfl,by rw[h3]; simp⟩
def D16:List TV→Dn
  | [.agg [.sl (.int .i64) u .no,.sl (.int .i64) l .no,.val (.int .i64 w),.sl (.int .i64) ls .no],.val (.int .i64 n)]=>some ([u.length≤1000,l.length≤1000,ls.length≤1000,0≤n,n≤3],.res (M9 (oZ n u l) (o5 n u l) w (dN n ls 4)) [] [],
    [(2,.ex (List Int) fun u1 => .ex (List Int) fun l1 => .st { sl:=[(5,.ptr 13 0)],pl:=[(13,[.sl bZ u1 .no,.sl bZ l1 .no,dn w,.gY])],eF:=[u1=if n=1∨n=3 then l.reverse else u,l1=if n=1∨n=3 then u.reverse else l] }),
     (4,.st { sl:=[(5,.ptr 13 0)],pl:=[(13,[.sl bZ (oZ n u l) .no,.sl bZ (o5 n u l) .no,dn w,.gY])] }),
     (8,.ex Nat fun i => .st { sl:=[(6,dn i)],pl:=[(13,[.sl bZ (oZ n u l) .no,.sl bZ (o5 n u l) .no,dn w,.sl bZ (dN n ls i) (.oR 14)])],own:=[(3,1)],eF:=[i≤4],m:=4-i })])
  | _=>none
theorem v16:VI T1 Tryz.f81 [some fD] D16:=by
  intro a p s j h hp
  unfold D16 at h
  split at h<;>cases h
  rename_i u l w ls n
  obtain⟨h1,h2,h3,h4,h5,-⟩:=hp
  refine vY (A:=0+u.length≤1000000000∧0+l.length≤1000000000∧aN (n==1) (l.length≤1000∧u.length≤1000∧∃ (a:List Int),∃ (a_1:List Int),n=n∧u=u∧l=l∧w=w∧ls=ls∧(0:Int)=0∧l.reverse=a∧u.reverse=a_1∧w=w∧(a=if n=1∨n=3 then l.reverse else u)∧(a_1=if n=1∨n=3 then u.reverse else l)∧True) (aN (n==3) (l.length≤1000∧u.length≤1000∧∃ (a:List Int),∃ (a_1:List Int),n=n∧u=u∧l=l∧w=w∧ls=ls∧(0:Int)=0∧l.reverse=a∧u.reverse=a_1∧w=w∧(a=if n=1∨n=3 then l.reverse else u)∧(a_1=if n=1∨n=3 then u.reverse else l)∧True) (∃ (a:List Int),∃ (a_1:List Int),n=n∧u=u∧l=l∧w=w∧ls=ls∧(0:Int)=0∧u=a∧l=a_1∧w=w∧(a=if n=1∨n=3 then l.reverse else u)∧(a_1=if n=1∨n=3 then u.reverse else l)∧True))∧∀ (a a_1:List Int),(a=if n=1∨n=3 then l.reverse else u)→(a_1=if n=1∨n=3 then u.reverse else l)→aN (n==2) (a.length≤1000∧a_1.length≤1000∧n=n∧u=u∧l=l∧w=w∧ls=ls∧(0:Int)=0∧a.reverse=oZ n u l∧a_1.reverse=o5 n u l∧w=w∧True) (aN (n==3) (a.length≤1000∧a_1.length≤1000∧n=n∧u=u∧l=l∧w=w∧ls=ls∧(0:Int)=0∧a.reverse=oZ n u l∧a_1.reverse=o5 n u l∧w=w∧True) (n=n∧u=u∧l=l∧w=w∧ls=ls∧(0:Int)=0∧a=oZ n u l∧a_1=o5 n u l∧w=w∧True))∧(∃ (a:Nat),0=(↑a:Int)∧oZ n u l=oZ n u l∧o5 n u l=o5 n u l∧w=w∧[]=dN n ls a∧a≤4∧4-a<1000000)∧∀ (a:Nat),a≤4→aN (decide ((↑a:Int)≤3)) (ls.length≤1000∧aN (decide (IntKind.i64.wrap (↑(BitVec.ofInt 64 (↑a:Int) ^^^ BitVec.ofInt 64 n).toNat:Int)∈ls)) ((dN n ls a).length+1≤1000000000∧dZ ((↑a:Int)+1)∧∃ (a_5:Nat),n=n∧(↑a:Int)+1=(↑a_5:Int)∧u=u∧l=l∧w=w∧ls=ls∧(0:Int)=0∧oZ n u l=oZ n u l∧o5 n u l=o5 n u l∧w=w∧dN n ls a++[(↑a:Int)]=dN n ls a_5∧a_5≤4∧4-a_5<4-a) (dZ ((↑a:Int)+1)∧∃ (a_5:Nat),n=n∧(↑a:Int)+1=(↑a_5:Int)∧u=u∧l=l∧w=w∧ls=ls∧(0:Int)=0∧oZ n u l=oZ n u l∧o5 n u l=o5 n u l∧w=w∧dN n ls a=dN n ls a_5∧a_5≤4∧4-a_5<4-a)) (oZ n u l=oZ n u l∧o5 n u l=o5 n u l∧w=w∧dN n ls a=dN n ls 4∧True)) (by kernel_rfl) ?_
  simp only[cC,cM,cL,dZ,and_true,true_and,eq_self]
  refine⟨by omega,by omega,⟨fun e=>⟨h2,h1,_,_,rfl,rfl,by simp[e],by simp[e]⟩,fun e=>⟨fun e1=>⟨h2,h1,_,_,rfl,rfl,by simp[e1],by simp[e1]⟩,fun e1=>⟨_,_,rfl,rfl,by simp[e,e1],by simp[e,e1]⟩⟩⟩,?_⟩
  rintro _ _ rfl rfl
  refine⟨⟨fun e=>⟨by split<;>simp_all,by split<;>simp_all,by simp[e,oZ],by simp[e,o5]⟩,fun e=>⟨fun e1=>⟨by split<;>simp_all,by split<;>simp_all,by simp[e1,oZ],by simp[e1,o5]⟩,fun e1=>⟨by simp[e,e1,oZ],by simp[e,e1,o5]⟩⟩⟩,⟨0,rfl,rfl,by omega,by omega⟩,fun i hi=>⟨fun h=>⟨h3,?_⟩,fun h=>by rw[show i=4 by omega]⟩⟩
  have hx:=mB n ls i
  change (BH i n∈ls→_)∧(¬ BH i n∈ls→_)
  exact⟨fun h=>⟨by omega,by omega,i+1,by omega,xh h,by omega,by omega⟩,fun h=>⟨by omega,i+1,by omega,AB h,by omega,by omega⟩⟩
section
variable {bC:bM} (tk:yQ bC)
include tk
theorem NC:kF bC 1 T1:=KZ (gf tk) Tryz.func121 rfl v97 (rF tk (gf tk) (by decide) Tryz.func119 rfl v52 (rF tk (gf tk) (by decide) Tryz.func97 rfl v53 (ia (gf tk))))
end
end Go.Tv
end
section
namespace Go.Tv
open Go Go.Di Go.Proofs
set_option maxRecDepth 100000
set_option maxHeartbeats 1000000
abbrev Ft (v:Int→TV) (f:Int→List Prop):qc := .ex Int fun k => .ex (List Int) fun r => .ex Int fun z => .res (v k) (BQ r z) (f k)
def D81:List TV→List TV→Dn
 | [.ptr 0 0],[.sl (.int .i64) _ .no,.val (.int .u64 z)]=>some ([],Ft (fun k => .val (.int .u64 k)) fun k=>[0≤k,k<4294967296],[(2,.ex Int fun k => .ex (List Int) fun r => .st { sl:=[(3,.val (.int .u64 k))],pl:=[(0,BQ r z)] })])
 | _,_=>none
theorem v81:VC T0 Tryz.f58 [some (.int .u64)] [some cE,some (.int .u64)] D81:=by
 intro a cs p s j h hp
 unfold D81 at h
 split at h<;>cases h
 rename_i r z
 refine vY (A:=aN (decide ((↑r.length:Int)>0)) (((0:Int)≤0∧0<(↑r.length:Int))∧((0:Int)≤1∧1≤(↑r.length:Int))∧∃ (a:Int),∃ (a_1:List Int),(0:Int)=0∧IntKind.u64.wrap (r.getD 0 0)=a∧List.drop 1 r=a_1∧z=z∧True) (∃ (a:Int),∃ (a_1:List Int),(0:Int)=0∧0=a∧r=a_1∧z=z∧True)∧∀ (a:Int) (a_1:List Int),∃ (a_2:Int),∃ (a_3:List Int),∃ (a_4:Int),(IntKind.u64.wrap (IntKind.u64.wrap (↑(BitVec.ofInt 64 (IntKind.u64.wrap (↑(BitVec.ofInt 64 (IntKind.u64.wrap (IntKind.u64.wrap (IntKind.u64.wrap (z+a)+6364136223846793005)*15074714826142052245)) ^^^ BitVec.ofInt 64 ((IntKind.u64.wrap (IntKind.u64.wrap (IntKind.u64.wrap (z+a)+6364136223846793005)*15074714826142052245)).fdiv (536870912:Int))).toNat:Int)) ^^^ BitVec.ofInt 64 ((IntKind.u64.wrap (↑(BitVec.ofInt 64 (IntKind.u64.wrap (IntKind.u64.wrap (IntKind.u64.wrap (z+a)+6364136223846793005)*15074714826142052245)) ^^^ BitVec.ofInt 64 ((IntKind.u64.wrap (IntKind.u64.wrap (IntKind.u64.wrap (z+a)+6364136223846793005)*15074714826142052245)).fdiv (536870912:Int))).toNat:Int)).fdiv (8589934592:Int))).toNat:Int)*18397679294719823053)).fdiv 4294967296=a_2∧a_1=a_3∧IntKind.u64.wrap (↑(BitVec.ofInt 64 (IntKind.u64.wrap (IntKind.u64.wrap (IntKind.u64.wrap (z+a)+6364136223846793005)*15074714826142052245)) ^^^ BitVec.ofInt 64 ((IntKind.u64.wrap (IntKind.u64.wrap (IntKind.u64.wrap (z+a)+6364136223846793005)*15074714826142052245)).fdiv (536870912:Int))).toNat:Int)=a_4∧0≤a_2∧a_2<4294967296∧True) (by kernel_rfl) ?_
 simp only[cC,cM,cL,c9,gE,dZ,and_true,true_and,eq_self]
 refine⟨⟨fun h=>⟨by omega,by omega,_,_,rfl,rfl⟩,fun h=>⟨_,_,rfl,rfl⟩⟩,fun k r1=>⟨_,_,_,rfl,rfl,rfl,(VA rfl).1,(VA rfl).2⟩⟩
def D11:List TV→Dn
 | [.sl (.int .i64) l .no]=>some ([],.res .unk (BQ l 1) [],[])
 | _=>none
theorem v11:VN T0 Tryz.f13 [some cE,some (.int .u64)] D11:=by
 intro a p s j h hp
 unfold D11 at h
 split at h<;>cases h
 rename_i l
 refine vY (A:=l=l∧(1:Int)=1∧True) (by kernel_rfl) ?_
 exact⟨rfl,rfl,trivial⟩
def D60:List TV→Dn
 | [.agg [.sl (.int .i64) ua .no,.sl (.int .i64) la .no],.agg [.sl (.int .i64) ub .no,.sl (.int .i64) lb .no],.val (.int .i64 s)]=>some ([la.length≤1000,ub.length≤1000,oS la,oS ub],.res (.tup [dn (stA la ub s).1,dn (stA la ub s).2.1,dn (stA la ub s).2.2]) [] [],
  [(6,.ex Nat fun i => .ex Int fun lo => .ex Int fun hi => .ex Int fun m => .st { sl:=[(6,dn lo),(7,dn hi),(8,dn m),(29,dn i)],eF:=[i≤ub.length,0≤m,m≤i,oc (eU la ub s i)=(lo,hi,m)],m:=ub.length-i })])
 | _=>none
theorem v60:VI T0 Tryz.f78 [some bZ,some bZ,some bZ] D60:=by
 intro a p s j h hp
 unfold D60 at h
 split at h<;>cases h
 rename_i ua la ub lb s
 obtain⟨h1,h2,h5,h6,-⟩:=hp
 refine vY (A:=dZ (-(↑ub.length:Int))∧aN (decide (s ≤ -(↑ub.length:Int))) (0=(stA la ub s).fst∧0=(stA la ub s).snd.fst∧0=(stA la ub s).snd.snd∧True) (aN (decide (s≥(↑la.length:Int))) (0=(stA la ub s).fst∧0=(stA la ub s).snd.fst∧0=(stA la ub s).snd.snd∧True) ((∃ (a:Nat),∃ (a_1:Int),∃ (a_2:Int),∃ (a_3:Int),0=a_1∧0=a_2∧0=a_3∧0=(↑a:Int)∧a≤ub.length∧0≤a_3∧a_3≤(↑a:Int)∧oc (eU la ub s a)=(a_1,a_2,a_3)∧ub.length-a<1000000)∧∀ (a:Nat) (a_1 a_2 a_3:Int),a≤ub.length→0≤a_3→a_3≤(↑a:Int)→oc (eU la ub s a)=(a_1,a_2,a_3)→aN (decide ((↑a:Int)<(↑ub.length:Int))) ((0≤(↑a:Int)∧(↑a:Int)<(↑ub.length:Int))∧dZ ((↑a:Int)+s)∧aN (decide ((↑a:Int)+s<0)) (dZ ((↑a:Int)+1)∧∃ (a_8:Nat),∃ (a_9:Int),∃ (a_10:Int),∃ (a_11:Int),s=s∧a_1=a_9∧a_2=a_10∧a_3=a_11∧ub=ub∧(↑ub.length:Int)=(↑ub.length:Int)∧(↑a:Int)+1=(↑a_8:Int)∧ua=ua∧la=la∧ub=ub∧lb=lb∧a_8≤ub.length∧0≤a_11∧a_11≤(↑a_8:Int)∧oc (eU la ub s a_8)=(a_9,a_10,a_11)∧ub.length-a_8<ub.length-a) (aN (decide ((↑a:Int)+s≥(↑la.length:Int))) (dZ ((↑a:Int)+1)∧∃ (a_8:Nat),∃ (a_9:Int),∃ (a_10:Int),∃ (a_11:Int),s=s∧a_1=a_9∧a_2=a_10∧a_3=a_11∧ub=ub∧(↑ub.length:Int)=(↑ub.length:Int)∧(↑a:Int)+1=(↑a_8:Int)∧ua=ua∧la=la∧ub=ub∧lb=lb∧a_8≤ub.length∧0≤a_11∧a_11≤(↑a_8:Int)∧oc (eU la ub s a_8)=(a_9,a_10,a_11)∧ub.length-a_8<ub.length-a) ((0≤(↑a:Int)+s∧(↑a:Int)+s<(↑la.length:Int))∧dZ (ub.getD a 0+la.getD ((↑a:Int)+s).toNat (0:Int))∧aN (a_3==0) (dZ (a_3+1)∧dZ ((↑a:Int)+1)∧∃ (a_8:Nat),∃ (a_9:Int),∃ (a_10:Int),∃ (a_11:Int),s=s∧(if ub.getD a 0+la.getD ((↑a:Int)+s).toNat 0<ub.getD a 0+la.getD ((↑a:Int)+s).toNat (0:Int) then ub.getD a 0+la.getD ((↑a:Int)+s).toNat (0:Int) else ub.getD a 0+la.getD ((↑a:Int)+s).toNat (0:Int))=a_9∧(if ub.getD a 0+la.getD ((↑a:Int)+s).toNat 0>ub.getD a 0+la.getD ((↑a:Int)+s).toNat (0:Int) then ub.getD a 0+la.getD ((↑a:Int)+s).toNat (0:Int) else ub.getD a 0+la.getD ((↑a:Int)+s).toNat (0:Int))=a_10∧a_3+1=a_11∧ub=ub∧(↑ub.length:Int)=(↑ub.length:Int)∧(↑a:Int)+1=(↑a_8:Int)∧ua=ua∧la=la∧ub=ub∧lb=lb∧a_8≤ub.length∧0≤a_11∧a_11≤(↑a_8:Int)∧oc (eU la ub s a_8)=(a_9,a_10,a_11)∧ub.length-a_8<ub.length-a) (dZ (a_3+1)∧dZ ((↑a:Int)+1)∧∃ (a_8:Nat),∃ (a_9:Int),∃ (a_10:Int),∃ (a_11:Int),s=s∧(if ub.getD a 0+la.getD ((↑a:Int)+s).toNat 0<a_1 then ub.getD a 0+la.getD ((↑a:Int)+s).toNat (0:Int) else a_1)=a_9∧(if ub.getD a 0+la.getD ((↑a:Int)+s).toNat 0>a_2 then ub.getD a 0+la.getD ((↑a:Int)+s).toNat (0:Int) else a_2)=a_10∧a_3+1=a_11∧ub=ub∧(↑ub.length:Int)=(↑ub.length:Int)∧(↑a:Int)+1=(↑a_8:Int)∧ua=ua∧la=la∧ub=ub∧lb=lb∧a_8≤ub.length∧0≤a_11∧a_11≤(↑a_8:Int)∧oc (eU la ub s a_8)=(a_9,a_10,a_11)∧ub.length-a_8<ub.length-a)))) (a_1=(stA la ub s).fst∧a_2=(stA la ub s).snd.fst∧a_3=(stA la ub s).snd.snd∧True)))) (by kernel_rfl) ?_
 simp only[cC,stA,cM,cL,c9,gE,dZ,and_true,true_and,eq_self]
 refine⟨by omega,fun h=>by rw[C5 (.inl h)]; exact⟨rfl,rfl,rfl⟩,fun _=>⟨fun h=>by rw[C5 (.inr h)]; exact⟨rfl,rfl,rfl⟩,fun h=>⟨⟨0,0,0,0,rfl,rfl,rfl,rfl,by omega,by omega,by omega,rfl,by omega⟩,fun i lo hi m k1 k2 k3 k4=>⟨fun k5=>⟨by omega,by omega,fun k6=>⟨by omega,i+1,lo,hi,m,rfl,rfl,rfl,by omega,by omega,by omega,by omega,by rw[eU,if_neg (by omega)]; exact k4,by omega⟩,fun k6=>⟨fun k7=>⟨by omega,i+1,lo,hi,m,rfl,rfl,rfl,by omega,by omega,by omega,by omega,by rw[eU,if_neg (by omega)]; exact k4,by omega⟩,fun k7 => ?_⟩⟩,fun k5 => ?_⟩⟩⟩⟩
 ·have e1:=wH h6 (i:=i) (by omega)
  have e2:=wH h5 (i:=((i:Int)+s).toNat) (by omega)
  exact⟨by omega,by omega,fun k8=>⟨by omega,by omega,i+1,_,_,_,rfl,rfl,rfl,by omega,by omega,by omega,by omega,by rw[eU,if_pos (by omega)]; exact Py k4 k8,by omega⟩,fun k8=>⟨by omega,by omega,i+1,_,_,_,rfl,rfl,rfl,by omega,by omega,by omega,by omega,by rw[eU,if_pos (by omega)]; exact Ct k4 k8,by omega⟩⟩
 ·rw[show i=ub.length by omega] at k4
  rw[k4]; exact⟨rfl,rfl,rfl⟩
def T1b:gD:=((T1.sR 58 fun a c=>dS (D81 a c)).Sq 13 fun a=>dS (D11 a)).dX 78 fun a=>dS (D60 a)
def D46:List TV→List TV→Dn
 | [.ptr 0 0,.val (.int .i64 m)],[.sl (.int .i64) _ .no,.val (.int .u64 _)]=>some ([m≤1000,-10000≤m],Ft dn fun k=>[0≤k,k≤m∨k=0],[])
 | _,_=>none
theorem v46:VC T1b Tryz.f15 [some bZ] [some cE,some (.int .u64)] D46:=by
 intro a cs p s j h hp
 unfold D46 at h
 split at h<;>cases h
 rename_i m r z
 obtain⟨h1,h2,-⟩:=hp
 refine vY (A:=aN (decide (m≤0)) (∃ (a:Int),∃ (a_1:List Int),∃ (a_2:Int),0=a∧r=a_1∧z=a_2∧0≤a∧(a≤m∨a=0)∧True) (∀ (a:Int) (a_1:List Int) (a_2:Int),0≤a→a<4294967296→dZ (m+1)∧∃ (a_5:Int),∃ (a_6:List Int),∃ (a_7:Int),IntKind.i64.wrap ((IntKind.u64.wrap (a*IntKind.u64.wrap (m+1))).fdiv (4294967296:Int))=a_5∧a_1=a_6∧a_2=a_7∧0≤a_5∧(a_5≤m∨a_5=0)∧True)) (by kernel_rfl) ?_
 simp only[cC,cM,cL,c9,gE,dZ,and_true,true_and,eq_self]
 exact⟨fun h=>⟨0,_,_,rfl,rfl,rfl,by omega,by omega⟩,fun h k r1 z1 h3 h4=>⟨by omega,_,_,_,rfl,rfl,rfl,(U6 h1 (by omega) h3 h4).1,(U6 h1 (by omega) h3 h4).2⟩⟩
def D65:List TV→Dn
 | [.agg [.sl (.int .i64) ua .no,.sl (.int .i64) la .no],.agg [.sl (.int .i64) ub .no,.sl (.int .i64) lb .no],.val (.int .i64 w)]=>some ([la.length≤100,ub.length≤100,oS la,oS ub],.res (.sl bZ (Bz la ub w (ub.length+la.length+1)) .no) [] [],
  [(4,.ex Nat fun k => .st { sl:=[(7,.sl bZ (Bz la ub w k) (.oR 2)),(8,dn ((k:Int)-(ub.length:Int)))],own:=[(3,1)],eF:=[k≤ub.length+la.length+1],m:=ub.length+la.length+1-k })])
 | _=>none
theorem v65:VI T1b Tryz.f103 [some cE] D65:=by
 intro a p s j h hp
 unfold D65 at h
 split at h<;>cases h
 rename_i ua la ub lb w
 obtain⟨h1,h2,h3,h4,-⟩:=hp
 refine vY (A:=dZ (-(↑ub.length:Int))∧(∃ (a:Nat),[]=Bz la ub w a ∧ -(↑ub.length:Int)=(↑a:Int)-(↑ub.length:Int)∧a≤ub.length+la.length+1∧ub.length+la.length+1-a<1000000)∧∀ (a:Nat),a≤ub.length+la.length+1→aN (decide ((↑a:Int)-(↑ub.length:Int)≤(↑la.length:Int))) (la.length≤1000∧ub.length≤1000∧oS la∧oS ub∧aN (decide ((stA la ub ((↑a:Int)-(↑ub.length:Int))).snd.snd≥3)) (dZ ((stA la ub ((↑a:Int)-(↑ub.length:Int))).snd.fst-(stA la ub ((↑a:Int)-(↑ub.length:Int))).fst)∧aN (decide ((stA la ub ((↑a:Int)-(↑ub.length:Int))).snd.fst-(stA la ub ((↑a:Int)-(↑ub.length:Int))).fst≤w)) ((Bz la ub w a).length+1≤1000000000∧dZ ((↑a:Int)-(↑ub.length:Int)+1)∧∃ (a_2:Nat),w=w∧yI bZ.den∧Bz la ub w a++[(↑a:Int)-(↑ub.length:Int)]=Bz la ub w a_2∧(↑a:Int)-(↑ub.length:Int)+1=(↑a_2:Int)-(↑ub.length:Int)∧ua=ua∧la=la∧ub=ub∧lb=lb∧a_2≤ub.length+la.length+1∧ub.length+la.length+1-a_2<ub.length+la.length+1-a) (dZ ((↑a:Int)-(↑ub.length:Int)+1)∧∃ (a_2:Nat),w=w∧yI bZ.den∧Bz la ub w a=Bz la ub w a_2∧(↑a:Int)-(↑ub.length:Int)+1=(↑a_2:Int)-(↑ub.length:Int)∧ua=ua∧la=la∧ub=ub∧lb=lb∧a_2≤ub.length+la.length+1∧ub.length+la.length+1-a_2<ub.length+la.length+1-a)) (dZ ((↑a:Int)-(↑ub.length:Int)+1)∧∃ (a_2:Nat),w=w∧yI bZ.den∧Bz la ub w a=Bz la ub w a_2∧(↑a:Int)-(↑ub.length:Int)+1=(↑a_2:Int)-(↑ub.length:Int)∧ua=ua∧la=la∧ub=ub∧lb=lb∧a_2≤ub.length+la.length+1∧ub.length+la.length+1-a_2<ub.length+la.length+1-a)) (Bz la ub w a=Bz la ub w (ub.length+la.length+1)∧True)) (by kernel_rfl) ?_
 simp only[cC,stA,cM,cL,c9,gE,dZ,and_true,true_and,eq_self]
 refine⟨by omega,⟨0,rfl,by omega,by omega,by omega⟩,fun k hk=>⟨fun h=>⟨by omega,by omega,h3,h4,?_⟩,fun h=>by rw[show k=ub.length+la.length+1 by omega]⟩⟩
 have e:=HO (ub:=ub) ((k:Int)-ub.length) h3 h4
 simp only[stA] at e
 have hl:=S4 la ub w k
 exact⟨fun h5=>⟨by omega,fun h6=>⟨by omega,by omega,k+1,SZ (iF ⟨h5,h6⟩),by omega,by omega,by omega⟩,fun h6=>⟨by omega,k+1,OL (fe fun e=>h6 e.2),by omega,by omega,by omega⟩⟩,fun h5=>⟨by omega,k+1,OL (fe fun e=>h5 e.1),by omega,by omega,by omega⟩⟩
def T2:gD:=(((T1b.sR 15 fun a c=>dS (D46 a c)).dX 81 fun a=>dS (D16 a)).sR 132 fun a c=>dS (Xt a c)).dX 103 fun a=>dS (D65 a)
def D19:List TV→List TV→Dn
 | [.ptr 0 0,.val (.int .i64 lo),.val (.int .i64 hi)],[.sl (.int .i64) _ .no,.val (.int .u64 _)]=>some ([-1000≤lo,lo≤1000,-1000≤hi,hi≤1000+lo,hi≤5000],Ft dn fun k=>[lo≤k,k≤hi∨k=lo],[])
 | _,_=>none
theorem v19:VC T2 Tryz.f70 [some bZ] [some cE,some (.int .u64)] D19:=by
 intro a cs p s j h hp
 unfold D19 at h
 split at h<;>cases h
 rename_i lo hi r z
 obtain⟨h1,h2,h3,h4,h5,-⟩:=hp
 refine vY (A:=dZ (hi-lo)∧hi-lo≤1000∧(-10000:Int)≤hi-lo∧∀ (a:Int) (a_1:List Int) (a_2:Int),0≤a→a≤hi-lo∨a=0→dZ (lo+a)∧∃ (a_5:Int),∃ (a_6:List Int),∃ (a_7:Int),lo+a=a_5∧a_1=a_6∧a_2=a_7∧lo≤a_5∧(a_5≤hi∨a_5=lo)∧True) (by kernel_rfl) ?_
 simp only[cC,cM,cL,c9,gE,dZ,and_true,true_and,eq_self]
 exact⟨by omega,by omega,by omega,fun k r1 z1 h6 h7=>⟨by omega,_,_,_,rfl,rfl,rfl,by omega,by omega⟩⟩
def D27:List TV→List TV→Dn
 | [.ptr 0 0,.val (.int .i64 m)],[.sl (.int .i64) _ .no,.val (.int .u64 _)]=>some ([m≤1000,0≤m],.ex Bool fun b=>Ft (fun _=>o6 b) fun _=>[],[])
 | _,_=>none
theorem v27:VC T2 Tryz.f67 [some .bool] [some cE,some (.int .u64)] D27:=by
 intro a cs p s j h hp
 unfold D27 at h
 split at h<;>cases h
 rename_i m r z
 obtain⟨h1,h2,-⟩:=hp
 refine vY (A:=dZ (m-1)∧m-1≤1000∧(-10000:Int)≤m-1∧∀ (a:Int) (a_1:List Int) (a_2:Int),0≤a→a≤m-1∨a=0→∃ (a_5:Bool),∃ (a_6:Int),∃ (a_7:List Int),∃ (a_8:Int),(a==IntKind.i64.wrap (m.tdiv (2:Int)))=a_5∧a_1=a_7∧a_2=a_8∧True) (by kernel_rfl) ?_
 simp only[cC,cM,cL,c9,gE,dZ,and_true,true_and,eq_self]
 exact⟨by omega,by omega,by omega,fun k r1 z1 _ _=>⟨_,0,_,_,rfl,rfl,rfl⟩⟩
def D45:List TV→List TV→Dn
 | [.ptr 0 0,.sl (.int .i64) l .no],[.sl (.int .i64) _ .no,.val (.int .u64 _)]=>some ([0<l.length,l.length≤1000],Ft dn fun k=>[k∈l],[])
 | _,_=>none
theorem v45:VC T2 Tryz.f69 [some bZ] [some cE,some (.int .u64)] D45:=by
 intro a cs p s j h hp
 unfold D45 at h
 split at h<;>cases h
 rename_i l r z
 obtain⟨h1,h2,-⟩:=hp
 refine vY (A:=dZ ((↑l.length:Int)-1)∧(↑l.length:Int)-1≤1000∧(-10000:Int)≤(↑l.length:Int)-1∧∀ (a:Int) (a_1:List Int) (a_2:Int),0≤a→a≤(↑l.length:Int)-1∨a=0→(0≤a∧a<(↑l.length:Int))∧∃ (a_5:Int),∃ (a_6:List Int),∃ (a_7:Int),l.getD a.toNat 0=a_5∧a_1=a_6∧a_2=a_7∧a_5∈l∧True) (by kernel_rfl) ?_
 simp only[cC,cM,cL,c9,gE,dZ,and_true,true_and,eq_self]
 exact⟨by omega,by omega,by omega,fun k r1 z1 h3 h4=>⟨by omega,_,_,_,rfl,rfl,rfl,jV (by omega)⟩⟩
def D96:List TV→List TV→Dn
 | [.sl (.int .i64) l .no,.fn 121 [] [.ptr 0 0]],[.val (.int .i64 dF)]=>some ([l.length≤1000],.res (o6 (!l.all (lg dF))) [dn dF] [],[])
 | _,_=>none
theorem v96:VC T2 Tryz.f120 [some .bool] [some bZ] D96:=by
 intro a cs p s j h hp
 unfold D96 at h
 split at h<;>cases h
 rename_i l dF
 have h1:=hp.1
 refine vY (A:=l.length≤1000∧∀ (a:Int),(if l.all (lg dF)=true then a=(-1:Int) else 0≤a)→decide (a≥0) = !l.all (lg dF)∧dF=dF∧True) (by kernel_rfl) ?_
 simp only[cC,cM,cL,c9,gE,dZ,and_true,true_and,eq_self]
 refine⟨h1,fun k hk => ?_⟩
 cases hl:l.all (lg dF)<;>simp[hl] at hk ⊢<;>omega
def T3:gD:=(((T2.sR 70 fun a c=>dS (D19 a c)).sR 67 fun a c=>dS (D27 a c)).sR 69 fun a c=>dS (D45 a c)).sR 120 fun a c=>dS (D96 a c)
def D44:List TV→List TV→Dn
 | [.ptr 0 0,.val (.int .i64 c)],[.sl (.int .i64) _ .no,.val (.int .u64 _)]=>some ([0≤c,c≤100],.ex (List Int) fun o => .ex (List Int) fun r => .ex Int fun z => .res (.sl bZ o .no) (BQ r z) [(o.length:Int)=c,oS o],
  [(5,.ex Nat fun i => .ex (List Int) fun o => .ex (List Int) fun r => .ex Int fun z => .st { sl:=[(6,.sl bZ o (.oR 1)),(7,dn i)],pl:=[(0,BQ r z)],own:=[(3,1)],eF:=[(i:Int)≤c,o.length=i,oS o],m:=c.toNat-i })])
 | _,_=>none
theorem v44:VC T3 Tryz.f87 [some cE] [some cE,some (.int .u64)] D44:=by
 intro a cs p s j h hp
 unfold D44 at h
 split at h<;>cases h
 rename_i c r z
 obtain⟨h1,h2,-⟩:=hp
 refine vY (A:=(7:Int)≤1000∧(-10000:Int)≤7∧∀ (a:Int) (a_1:List Int) (a_2:Int),0≤a→a≤7∨a=0→0<3∧3≤1000∧∀ (a_5:Int) (a_6:List Int) (a_7:Int),a_5∈[(0:Int),(2:Int),a]→(∃ (a:Nat),∃ (a_8:List Int),∃ (a_9:List Int),∃ (a_10:Int),[]=a_8∧0=(↑a:Int)∧a_6=a_9∧a_7=a_10∧(↑a:Int)≤c∧a_8.length=a∧oS a_8∧c.toNat-a<1000000)∧∀ (a:Nat) (a_8 a_9:List Int) (a_10:Int),(↑a:Int)≤c→a_8.length=a→oS a_8→aN (decide ((↑a:Int)<c)) (0<4∧4≤1000∧∀ (a_14:Int) (a_15:List Int) (a_16:Int),a_14∈[(0:Int),(0:Int),(1:Int),(2:Int)]→dZ (a_5+a_14)∧a_8.length+1≤1000000000∧dZ ((↑a:Int)+1)∧∃ (a_18:Nat),∃ (a_19:List Int),∃ (a_20:List Int),∃ (a_21:Int),c=c∧yI bZ.den∧a_5=a_5∧a_8++[a_5+a_14]=a_19∧(↑a:Int)+1=(↑a_18:Int)∧a_15=a_20∧a_16=a_21∧(↑a_18:Int)≤c∧a_19.length=a_18∧oS a_19∧c.toNat-a_18<c.toNat-a) (∃ (a:List Int),∃ (a_14:List Int),∃ (a_15:Int),a_8=a∧a_9=a_14∧a_10=a_15∧(↑a.length:Int)=c∧oS a∧True)) (by kernel_rfl) ?_
 simp only[cC,cM,cL,c9,gE,dZ,and_true,true_and,eq_self]
 refine⟨by omega,by omega,fun k1 r1 z1 h3 h4=>⟨by omega,by omega,fun k2 r2 z2 h5 => ?_⟩⟩
 have h6:0≤k2∧k2≤7:=by simp at h5; omega
 refine⟨⟨0,[],r2,z2,rfl,rfl,rfl,rfl,h1,rfl,by simp[oS],by omega⟩,fun i o r3 z3 h6 h7 h8=>⟨fun h9=>⟨by omega,by omega,fun k4 r4 z4 uD => ?_⟩,fun h9=>⟨_,_,_,rfl,rfl,rfl,by omega,h8⟩⟩⟩
 have Dk:0≤k4∧k4≤2:=by simp at uD; omega
 exact⟨by omega,by omega,by omega,i+1,_,_,_,rfl,by omega,rfl,rfl,by omega,by simp[h7],Gy h8 (by omega),by omega⟩
def D47:List TV→List TV→Dn
 | [.ptr 0 0],[.sl (.int .i64) _ .no,.val (.int .u64 _)]=>some ([],.ex (List Int) fun o => .ex (List Int) fun r => .ex Int fun z => .res (.sl bZ o .no) (BQ r z) [o≠[],∀ x∈o,0≤x∧x≤3,o.Pairwise (· < ·)],
  [(4,.ex Nat fun i => .ex (List Int) fun o => .ex (List Int) fun r => .ex Int fun z => .st { sl:=[(3,.sl bZ o (.oR 1)),(4,dn i)],pl:=[(0,BQ r z)],own:=[(3,1)],eF:=[i≤4,o.length≤i,∀ x∈o,0≤x∧x<i,o.Pairwise (· < ·)],m:=4-i })])
 | _,_=>none
theorem v47:VC T3 Tryz.f88 [some cE] [some cE,some (.int .u64)] D47:=by
 intro a cs p s j h hp
 unfold D47 at h
 split at h<;>cases h
 rename_i r z
 refine vY (A:=(∃ (a:Nat),∃ (a_1:List Int),∃ (a_2:List Int),∃ (a_3:Int),[]=a_1∧0=(↑a:Int)∧r=a_2∧z=a_3∧a≤4∧a_1.length≤a∧(∀ (x:Int),x∈a_1→0≤x∧x<(↑a:Int))∧List.Pairwise (fun(x1 x2:Int)=>x1<x2) a_1∧4-a<1000000)∧∀ (a:Nat) (a_1 a_2:List Int) (a_3:Int),a≤4→a_1.length≤a→(∀ (x:Int),x∈a_1→0≤x∧x<(↑a:Int))→List.Pairwise (fun(x1 x2:Int)=>x1<x2) a_1→aN (decide ((↑a:Int)≤3)) ((2:Int)≤1000∧(0:Int)≤2∧∀ (a_8:Bool) (a_9:Int) (a_10:List Int) (a_11:Int),aN a_8 (a_1.length+1≤1000000000∧dZ ((↑a:Int)+1)∧∃ (a_12:Nat),∃ (a_13:List Int),∃ (a_14:List Int),∃ (a_15:Int),yI bZ.den∧a_1++[(↑a:Int)]=a_13∧(↑a:Int)+1=(↑a_12:Int)∧a_10=a_14∧a_11=a_15∧a_12≤4∧a_13.length≤a_12∧(∀ (x:Int),x∈a_13→0≤x∧x<(↑a_12:Int))∧List.Pairwise (fun(x1 x2:Int)=>x1<x2) a_13∧4-a_12<4-a) (dZ ((↑a:Int)+1)∧∃ (a_12:Nat),∃ (a_13:List Int),∃ (a_14:List Int),∃ (a_15:Int),yI bZ.den∧a_1=a_13∧(↑a:Int)+1=(↑a_12:Int)∧a_10=a_14∧a_11=a_15∧a_12≤4∧a_13.length≤a_12∧(∀ (x:Int),x∈a_13→0≤x∧x<(↑a_12:Int))∧List.Pairwise (fun(x1 x2:Int)=>x1<x2) a_13∧4-a_12<4-a)) (aN ((↑a_1.length:Int)==0) ((3:Int)≤1000∧(-10000:Int)≤3∧∀ (a:Int) (a_8:List Int) (a_9:Int),0≤a→a≤3∨a=0→∃ (a_12:List Int),∃ (a_13:List Int),∃ (a_14:Int),[a]=a_12∧a_8=a_13∧a_9=a_14∧a_12≠[]∧(∀ (x:Int),x∈a_12→0≤x∧x≤3)∧List.Pairwise (fun(x1 x2:Int)=>x1<x2) a_12∧True) (∃ (a:List Int),∃ (a_8:List Int),∃ (a_9:Int),a_1=a∧a_2=a_8∧a_3=a_9∧a≠[]∧(∀ (x:Int),x∈a→0≤x∧x≤3)∧List.Pairwise (fun(x1 x2:Int)=>x1<x2) a∧True))) (by kernel_rfl) ?_
 simp only[cC,cM,cL,c9,gE,dZ,and_true,true_and,eq_self]
 refine⟨⟨0,[],_,_,rfl,rfl,rfl,rfl,by omega,by simp,by simp,by simp,by omega⟩,fun i o r1 z1 h1 h2 h3 h4=>⟨fun h5=>⟨by omega,by omega,fun b _ r2 z2 => ?_⟩,fun h5=>⟨fun h6=>⟨by omega,by omega,fun k r2 z2 h7 h8=>⟨_,_,_,rfl,rfl,rfl,by simp,by simp; omega,by simp⟩⟩,fun h6=>⟨_,_,_,rfl,rfl,rfl,fun e=>h6 (by rw[e]; rfl),fun x hx=>by have:=h3 x hx; omega,h4⟩⟩⟩⟩
 rw[lq]
 exact⟨fun _=>⟨by omega,by omega,i+1,_,_,_,rfl,by omega,rfl,rfl,by omega,by simp; omega,Gy (fun x hx=>by have:=h3 x hx; omega) (by omega),QS h4 (fun x hx=>(h3 x hx).2),by omega⟩,fun _=>⟨by omega,i+1,_,_,_,rfl,by omega,rfl,rfl,by omega,by omega,fun x hx=>by have:=h3 x hx; omega,h4,by omega⟩⟩
def D78:List TV→Dn
 | [.sl (.int .i64) l .no,.val (.int .i64 dF)]=>some ([l.length≤1000],.res (o6 (l.all (lg dF))) [] [],[])
 | _=>none
theorem v78:VI T3 Tryz.f90 [some .bool] D78:=by
 intro a p s j h hp
 unfold D78 at h
 split at h<;>cases h
 rename_i l dF
 have h1:=hp.1
 refine vY (A:=l.length≤1000∧(!!l.all (lg dF))=l.all (lg dF)∧True) (by kernel_rfl) ?_
 exact⟨h1,Bool.not_not _,trivial⟩
def T4:gD:=((T3.sR 87 fun a c=>dS (D44 a c)).sR 88 fun a c=>dS (D47 a c)).dX 90 fun a=>dS (D78 a)
section
variable {bC:bM} (tk:yQ bC)
include tk
theorem NZ:kF bC 1 T1b:=rF tk (gf tk) (by decide) Tryz.func78 rfl v60 (mkN tk (gf tk) (by decide) Tryz.func13 rfl v11 (KZ (gf tk) Tryz.func58 rfl v81 (NC tk)))
theorem Dp:kF bC 2 T2:=rF tk (NZ tk) (by decide) Tryz.func103 rfl v65 (KZ (NC tk) Tryz.func132 rfl v109 (rF tk (NC tk) (by decide) Tryz.func81 rfl v16 (KZ (NZ tk) Tryz.func15 rfl v46 (ia (NZ tk)))))
theorem RI:kF bC 3 T3:=KZ (Dp tk) Tryz.func120 rfl v96 (KZ (Dp tk) Tryz.func69 rfl v45 (KZ (Dp tk) Tryz.func67 rfl v27 (KZ (Dp tk) Tryz.func70 rfl v19 (ia (Dp tk)))))
theorem RH:kF bC 4 T4:=rF tk (RI tk) (by decide) Tryz.func90 rfl v78 (KZ (RI tk) Tryz.func88 rfl v47 (KZ (RI tk) Tryz.func87 rfl v44 (ia (RI tk))))
end
end Go.Tv
end
section
namespace Go.Tv
open Go Go.Di Go.Proofs
set_option maxRecDepth 100000
abbrev pcS (f : List Int → List Int → Int → List Int → List Prop) : qc := .ex (List Int) fun u => .ex (List Int) fun l => .ex Int fun w => .ex (List Int) fun ls => .ex (List Int) fun r => .ex Int fun z => .res (M9 u l w ls) (BQ r z) (f u l w ls)
def D12 : List TV → List TV → Dn
 | [.ptr 0 0, .val (.int .i64 c)], [.sl (.int .i64) _ .no, .val (.int .u64 _)] => some ([3 ≤ c, c ≤ 8], pcS fun u l w ls => [Ok u l w ls, (u.length : Int) ≤ c], [])
 | _, _ => none
theorem v12 : VC T4 Tryz.f39 [some fD] [some cE, some (.int .u64)] D12 := by
 intro a cs p s j h hp
 unfold D12 at h
 split at h <;> cases h
 rename_i c r z
 obtain ⟨h1, h2, -⟩ := hp
 refine vY (A := (-1000 : Int) ≤ 3 ∧ (3 : Int) ≤ 1000 ∧ (-1000 : Int) ≤ c ∧ c ≤ 1003 ∧ c ≤ 5000 ∧ ∀ (a : Int) (a_1 : List Int) (a_2 : Int), 3 ≤ a → a ≤ c ∨ a = 3 → 0 ≤ a ∧ a ≤ 100 ∧ ∀ (a_5 a_6 : List Int) (a_7 : Int), (↑a_5.length : Int) = a → oS a_5 → 0 ≤ a ∧ a ≤ 100 ∧ ∀ (a_10 a_11 : List Int) (a_12 : Int), (↑a_10.length : Int) = a → oS a_10 → (2 : Int) ≤ 1000 ∧ (-10000 : Int) ≤ 2 ∧ ∀ (a : Int) (a_13 : List Int) (a_14 : Int), 0 ≤ a → a ≤ 2 ∨ a = 0 → 0 < 4 ∧ 4 ≤ 1000 ∧ ∀ (a_17 : Int) (a_18 : List Int) (a_19 : Int), a_17 ∈ [(0 : Int), (0 : Int), (1 : Int), a] → ∀ (a a_20 : List Int) (a_21 : Int), a ≠ [] → (∀ (x : Int), x ∈ a → 0 ≤ x ∧ x ≤ 3) → List.Pairwise (fun (x1 x2 : Int) => x1 < x2) a → ∃ (a_25 : List Int), ∃ (a_26 : List Int), ∃ (a_27 : Int), ∃ (a_28 : List Int), ∃ (a_29 : List Int), ∃ (a_30 : Int), a_5 = a_25 ∧ a_10 = a_26 ∧ a_17 = a_27 ∧ a = a_28 ∧ a_20 = a_29 ∧ a_21 = a_30 ∧ Ok a_25 a_26 a_27 a_28 ∧ (↑a_25.length : Int) ≤ c ∧ True) (by kernel_rfl) ?_
 simp only [cC, cM, cL, c9, gE, dZ, and_true, true_and, eq_self]
 refine ⟨by omega, by omega, by omega, by omega, by omega, fun n r1 z1 h3 h4 => ⟨by omega, by omega, fun u r2 z2 h5 h6 => ⟨by omega, by omega, fun l r3 z3 h7 h8 => ⟨by omega, by omega, fun k r4 z4 h9 uD => ⟨by omega, by omega, fun w r5 z5 Dk ls r6 z6 Q5 Y9 h14 => ?_⟩⟩⟩⟩⟩
 have Q4 : 0 ≤ w ∧ w ≤ 2 := by simp at Dk; omega
 exact ⟨u, l, w, ls, r6, z6, rfl, rfl, rfl, rfl, rfl, rfl, ⟨by omega, by omega, by omega, h6, h8, Q4.1, Q4.2, Q5, Y9, h14⟩, by omega⟩
def D77 : List TV → Dn
 | [.agg [.sl (.int .i64) u .no, .sl (.int .i64) l .no, .val (.int .i64 w), .sl (.int .i64) ls .no]] => some ([Sh u l ls], .res (dn (iW u l w ls)) [] [],
  [(3, .un 3), (19, .ex Nat fun i => .st { sl := [(71, dn i)], eF := [i ≤ ls.length, iN ls 0 = iN ls i], m := ls.length - i })])
 | _ => none
set_option maxHeartbeats 1000000 in
theorem v77 : VI T4 Tryz.f89 [some bZ] D77 := by
 intro a p s j h hp
 unfold D77 at h
 split at h <;> cases h
 rename_i u l w ls
 change List Int at u l ls
 obtain ⟨h1, h2, h3⟩ := hp.1
 refine vY (A := ((0 : Int) ≤ 0 ∧ 0 < (↑(2 : Nat) : Int)) ∧ aN (decide ((↑u.length : Int) < 3)) (7 = iW u l w ls ∧ True) (aN (decide ((↑u.length : Int) < (↑u.length : Int))) (7 = iW u l w ls ∧ True) (aN (decide ((↑u.length : Int) > 8)) (6 = iW u l w ls ∧ True) (aN (decide ((↑u.length : Int) > (↑u.length : Int))) (6 = iW u l w ls ∧ True) (dZ (1 : Int) ∧ ((0 : Int) ≤ 1 ∧ 1 < (↑(2 : Nat) : Int)) ∧ aN (decide ((↑l.length : Int) < 3)) (7 = iW u l w ls ∧ True) (aN (decide ((↑l.length : Int) < (↑u.length : Int))) (7 = iW u l w ls ∧ True) (aN (decide ((↑l.length : Int) > 8)) (6 = iW u l w ls ∧ True) (aN (decide ((↑l.length : Int) > (↑u.length : Int))) (6 = iW u l w ls ∧ True) (dZ (2 : Int) ∧ u.length ≤ 1000 ∧ aN (!u.all (lg (9 : Int))) (1 = iW u l w ls ∧ True) (l.length ≤ 1000 ∧ aN (!l.all (lg (9 : Int))) (1 = iW u l w ls ∧ True) (aN (decide (w < 0)) (1 = iW u l w ls ∧ True) (aN (decide (w > 2)) (1 = iW u l w ls ∧ True) (aN ((↑ls.length : Int) == 0) (7 = iW u l w ls ∧ True) ((∃ (a : Nat), 0 = (↑a : Int) ∧ a ≤ ls.length ∧ iN ls 0 = iN ls a ∧ ls.length - a < 1000000) ∧ ∀ (a : Nat), a ≤ ls.length → iN ls 0 = iN ls a → aN (decide ((↑a : Int) < (↑ls.length : Int))) ((0 ≤ (↑a : Int) ∧ (↑a : Int) < (↑ls.length : Int)) ∧ aN (decide (ls.getD a 0 < 0)) (8 = iW u l w ls ∧ True) (aN (decide (ls.getD a 0 > 3)) (8 = iW u l w ls ∧ True) (aN (decide ((↑a : Int) > 0)) (dZ ((↑a : Int) - 1) ∧ (0 ≤ (↑a : Int) - 1 ∧ (↑a : Int) - 1 < (↑ls.length : Int)) ∧ aN (decide (ls.getD a 0 ≤ ls.getD ((↑a : Int) - 1).toNat (0 : Int))) (5 = iW u l w ls ∧ True) (dZ ((↑a : Int) + 1) ∧ ∃ (a_3 : Nat), ls = ls ∧ (↑ls.length : Int) = (↑ls.length : Int) ∧ (↑a : Int) + 1 = (↑a_3 : Int) ∧ u = u ∧ l = l ∧ w = w ∧ ls = ls ∧ a_3 ≤ ls.length ∧ iN ls 0 = iN ls a_3 ∧ ls.length - a_3 < ls.length - a)) (dZ ((↑a : Int) + 1) ∧ ∃ (a_3 : Nat), ls = ls ∧ (↑ls.length : Int) = (↑ls.length : Int) ∧ (↑a : Int) + 1 = (↑a_3 : Int) ∧ u = u ∧ l = l ∧ w = w ∧ ls = ls ∧ a_3 ≤ ls.length ∧ iN ls 0 = iN ls a_3 ∧ ls.length - a_3 < ls.length - a)))) (0 = iW u l w ls ∧ True))))))))))))))) (by kernel_rfl) ?_
 simp only [cC, cM, cL, c9, gE, dZ, and_true, true_and, eq_self]
 refine ⟨by omega, fun a1 => ?_, fun a1 => ⟨fun a2 => by omega, fun _ => ⟨fun a3 => ?_, fun a3 => ⟨fun _ => by omega, fun _ => ⟨by omega, by omega, fun a4 => ?_, fun a4 => ⟨fun a5 => ?_, fun a5 => ⟨fun a6 => ?_, fun a6 => ⟨fun a7 => ?_, fun a7 => ⟨by omega, by omega, ?_⟩⟩⟩⟩⟩⟩⟩⟩⟩
 ·rw [iW, if_pos (by omega)]
 ·rw [iW, if_neg (by omega), if_pos (by omega)]
 ·rw [iW, if_neg (by omega), if_neg (by omega), if_pos (by omega)]
 ·rw [iW, if_neg (by omega), if_neg (by omega), if_pos (by omega)]
 ·rw [iW, if_neg (by omega), if_neg (by omega), if_neg (by omega), if_pos (by omega)]
 ·rw [iW, if_neg (by omega), if_neg (by omega), if_neg (by omega), if_pos (by omega)]
 have e1 : ∀ (_ : u.all (lg 9) = false ∨ l.all (lg 9) = false ∨ w < 0 ∨ 2 < w), 1 = iW u l w ls := fun h => by rw [iW, if_neg (by omega), if_neg (by omega), if_neg (by omega), if_neg (by omega), if_pos h]
 rw [lq]
 refine ⟨fun b1 => ⟨by omega, ?_⟩, fun b1 => e1 (.inl b1)⟩
 rw [lq]
 refine ⟨fun b2 => ⟨fun b3 => e1 (.inr (.inr (.inl b3))), fun b3 => ⟨fun b4 => e1 (.inr (.inr (.inr b4))), fun b4 => ⟨fun b5 => ?_, fun b5 => ?_⟩⟩⟩, fun b2 => e1 (.inr (.inl b2))⟩
 ·rw [iW, if_neg (by omega), if_neg (by omega), if_neg (by omega), if_neg (by omega), if_neg (by rw [b1, b2]; simp; omega), if_pos (by omega)]
 have e : iW u l w ls = iN ls 0 := KI (by omega) (by omega) (by omega) (by omega) (by rw [b1]; rfl) (by rw [b2]; rfl) (by omega) (by omega) (by omega)
 rw [e]
 refine ⟨⟨0, rfl, by omega, rfl, by omega⟩, fun i k1 k2 => ⟨fun k3 => ⟨by omega, fun k4 => ?_, fun k4 => ⟨fun k5 => ?_, fun k5 => ⟨fun k6 => ⟨by omega, by omega, fun k7 => ?_, fun k7 => ⟨by omega, i + 1, by omega, by omega, k2.trans (q7 (by omega) (by omega) ?_), by omega⟩⟩, fun k6 => ⟨by omega, i + 1, by omega, by omega, k2.trans (q7 (by omega) (by omega) (by omega)), by omega⟩⟩⟩⟩, fun k3 => ?_⟩⟩
 ·rw [k2, Jr (by omega) (.inl k4)]
 ·rw [k2, Jr (by omega) (.inr (by omega))]
 ·rw [k2, Ob (by omega) (by omega) ⟨by omega, by rw [show i - 1 = ((i : Int) - 1).toNat by omega]; exact k7⟩]
 ·rw [show i - 1 = ((i : Int) - 1).toNat by omega]; exact fun h => k7 h.2
 ·rw [k2, Oc (by omega)]
def T5 : gD := (T4.sR 39 fun a c => dS (D12 a c)).dX 89 fun a => dS (D77 a)
def D13 : List TV → List TV → Dn
 | [.ptr 0 0, .agg [.sl (.int .i64) u .no, .sl (.int .i64) l .no, .val (.int .i64 w), .sl (.int .i64) ls .no]], [.sl (.int .i64) _ .no, .val (.int .u64 _)] => some ([Ok u l w ls], pcS fun u1 l1 w1 YK => [Ok u1 l1 w1 YK, u1 = l.map (9 - ·)],
  [(5, .ex (List Int) fun u1 => .ex (List Int) fun l1 => .ex Int fun w1 => .ex (List Int) fun YK => .ex (List Int) fun r => .ex Int fun z => .ex Nat fun i => .st { sl := [(6, dn i)], pl := [(0, BQ r z), (3, [.sl bZ ((l.take i).map (9 - ·)) (.oR 4), .sl bZ l1 .no, dn w1, .sl bZ YK .no])], own := [(3, 1)], eF := [i ≤ l.length, Ok u1 l1 w1 YK, l1.length = l.length], m := l.length - i })])
 | _, _ => none
theorem v13 : VC T5 Tryz.f40 [some fD] [some cE, some (.int .u64)] D13 := by
 intro a cs p s j h hp
 unfold D13 at h
 split at h <;> cases h
 rename_i u l w ls r z
 have h1 := hp.1
 refine vY (A := 3 ≤ (↑u.length : Int) ∧ (↑u.length : Int) ≤ 8 ∧ ∀ (a a_1 : List Int) (a_2 : Int) (a_3 a_4 : List Int) (a_5 : Int), Ok a a_1 a_2 a_3 → (↑a.length : Int) ≤ (↑u.length : Int) → 0 ≤ (↑u.length : Int) ∧ (↑u.length : Int) ≤ 100 ∧ ∀ (a a_7 : List Int) (a_8 : Int), (↑a.length : Int) = (↑u.length : Int) → oS a → (∃ (a_11 : List Int), ∃ (a_12 : List Int), ∃ (a_13 : Int), ∃ (a_14 : List Int), ∃ (a_15 : List Int), ∃ (a_16 : Int), ∃ (a_17 : Nat), 0 = (↑a_17 : Int) ∧ a_7 = a_15 ∧ a_8 = a_16 ∧ [] = List.map (fun (x : bZ.den) => (9 : bZ.den) - x) (List.take a_17 l) ∧ a = a_12 ∧ a_2 = a_13 ∧ a_3 = a_14 ∧ a_17 ≤ l.length ∧ Ok a_11 a_12 a_13 a_14 ∧ a_12.length = l.length ∧ l.length - a_17 < 1000000) ∧ ∀ (a a_11 : List Int) (a_12 : Int) (a_13 a_14 : List Int) (a_15 : Int) (a_16 : Nat), a_16 ≤ l.length → Ok a a_11 a_12 a_13 → a_11.length = l.length → aN (decide ((↑a_16 : Int) < (↑l.length : Int))) ((0 ≤ (↑a_16 : Int) ∧ (↑a_16 : Int) < (↑l.length : Int)) ∧ dZ ((9 : Int) - l.getD a_16 0) ∧ (List.map (fun (x : bZ.den) => (9 : bZ.den) - x) (List.take a_16 l)).length + 1 ≤ 1000000000 ∧ dZ ((↑a_16 : Int) + 1) ∧ ∃ (a : List Int), ∃ (a_18 : List Int), ∃ (a_19 : Int), ∃ (a_20 : List Int), ∃ (a_21 : List Int), ∃ (a_22 : Int), ∃ (a_23 : Nat), (↑a_16 : Int) + 1 = (↑a_23 : Int) ∧ a_14 = a_21 ∧ a_15 = a_22 ∧ u = u ∧ l = l ∧ w = w ∧ ls = ls ∧ (0 : Int) = 0 ∧ List.map (fun (x : bZ.den) => (9 : bZ.den) - x) (List.take a_16 l) ++ [(9 : Int) - l.getD a_16 0] = List.map (fun (x : bZ.den) => (9 : bZ.den) - x) (List.take a_23 l) ∧ a_11 = a_18 ∧ a_12 = a_19 ∧ a_13 = a_20 ∧ a_23 ≤ l.length ∧ Ok a a_18 a_19 a_20 ∧ a_18.length = l.length ∧ l.length - a_23 < l.length - a_16) (∃ (a : List Int), ∃ (a_18 : List Int), ∃ (a_19 : Int), ∃ (a_20 : List Int), ∃ (a_21 : List Int), ∃ (a_22 : Int), List.map (fun (x : bZ.den) => (9 : bZ.den) - x) (List.take a_16 l) = a ∧ a_11 = a_18 ∧ a_12 = a_19 ∧ a_13 = a_20 ∧ a_14 = a_21 ∧ a_15 = a_22 ∧ Ok a a_18 a_19 a_20 ∧ a = List.map (fun (x : bZ.den) => (9 : bZ.den) - x) l ∧ True)) (by kernel_rfl) ?_
 simp only [cC, cM, cL, c9, gE, dZ, and_true, true_and, eq_self]
 have := h1.n3
 have := h1.n8
 have := h1.len
 refine ⟨by omega, by omega, fun u1 l1 w1 YK r1 z1 h2 h3 => ⟨by omega, by omega, fun o r2 z2 h4 h5 => ⟨⟨o, o, w1, YK, r2, z2, 0, rfl, rfl, rfl, rfl, rfl, rfl, rfl, by omega, ⟨by omega, by omega, rfl, h5, h5, h2.w0, h2.w2, h2.ne, h2.Zn, h2.Zb⟩, by omega, by omega⟩, fun u3 o w ls r3 z3 i h6 h7 h8 => ⟨fun h9 => ?_, fun h9 => ?_⟩⟩⟩⟩
 ·have := h1.hl _ (jV (l := l) (i := i) (by omega))
  exact ⟨by omega, by omega, by simp; omega, by omega, u3, o, w, ls, r3, z3, i + 1, by omega, rfl, rfl, nY (f := fun x => 9 - x) (by omega), rfl, rfl, rfl, by omega, h7, h8, by omega⟩
 ·rw [show i = l.length by omega, fo]
  exact ⟨_, o, w, ls, r3, z3, rfl, rfl, rfl, rfl, rfl, rfl, Qg h7 h8 h1.hl, rfl⟩
def D59 : List TV → Dn
 | [.sl (.pair (.sl (.int .i64)) (.pair (.sl (.int .i64)) (.pair (.int .i64) (.pair (.sl (.int .i64)) .unit)))) l .no] => some ([l.length ≤ 1000, ∀ p ∈ l, jJ p], .res (dn (gK l)) [] [],
  [(3, .ex Nat fun i => .st { sl := [(8, dn i)], eF := [i ≤ l.length, gK (l.take i) = 0], m := l.length - i })])
 | _ => none
theorem v59 : VI T5 Tryz.f94 [some bZ] D59 := by
 intro a p s j h hp
 unfold D59 at h
 split at h <;> cases h
 rename_i l
 obtain ⟨h1, h2, -⟩ := hp
 refine vY (A := (∃ (a : Nat), 0 = (↑a : Int) ∧ a ≤ l.length ∧ gK (List.take a l) = 0 ∧ l.length - a < 1000000) ∧ ∀ (a : Nat), a ≤ l.length → gK (List.take a l) = 0 → aN (decide ((↑a : Int) < (↑l.length : Int))) ((0 ≤ (↑a : Int) ∧ (↑a : Int) < (↑l.length : Int)) ∧ Sh (l.getD a ([], [], 0, [], ())).fst (l.getD a ([], [], 0, [], ())).snd.fst (l.getD a ([], [], 0, [], ())).snd.snd.snd.fst ∧ aN (iW (l.getD a ([], [], 0, [], ())).fst (l.getD a ([], [], 0, [], ())).snd.fst (l.getD a ([], [], 0, [], ())).snd.snd.fst (l.getD a ([], [], 0, [], ())).snd.snd.snd.fst != 0) (iW (l.getD a ([], [], 0, [], ())).fst (l.getD a ([], [], 0, [], ())).snd.fst (l.getD a ([], [], 0, [], ())).snd.snd.fst (l.getD a ([], [], 0, [], ())).snd.snd.snd.fst = gK l ∧ True) (dZ ((↑a : Int) + 1) ∧ ∃ (a_3 : Nat), l = l ∧ (↑l.length : Int) = (↑l.length : Int) ∧ (↑a : Int) + 1 = (↑a_3 : Int) ∧ a_3 ≤ l.length ∧ gK (List.take a_3 l) = 0 ∧ l.length - a_3 < l.length - a)) (0 = gK l ∧ True)) (by kernel_rfl) ?_
 simp only [cC, cM, cL, c9, gE, dZ, and_true, true_and, eq_self]
 refine ⟨⟨0, rfl, by omega, rfl, by omega⟩, fun i k1 k2 => ⟨fun k3 => ⟨by omega, Qw (P := jJ) (by omega) h2, fun k4 => ⟨by omega, i + 1, by omega, by omega, QK (by omega) k2 k4, by omega⟩, fun k4 => (Up (by omega) k2 k4).symm⟩, fun k3 => ?_⟩⟩
 rw [show i = l.length by omega, fo] at k2
 rw [k2]
def T6 : gD := (T5.sR 40 fun a c => dS (D13 a c)).dX 94 fun a => dS (D59 a)
def T7 : gD := T6
def T8 : gD := T7
section
variable {bC : bM} (tk : yQ bC)
include tk
theorem Ws : kF bC 5 T5 := rF tk (RH tk) (by decide) Tryz.func89 rfl v77 (KZ (RH tk) Tryz.func39 rfl v12 (ia (RH tk)))
theorem aab : kF bC 6 T6 := rF tk (Ws tk) (by decide) Tryz.func94 rfl v59 (KZ (Ws tk) Tryz.func40 rfl v13 (ia (Ws tk)))
theorem ach : kF bC 7 T7 := ia (aab tk)
theorem acg : kF bC 8 T8 := ia (ach tk)
end
end Go.Tv
end
section
namespace Go.Tv
open Go Go.Di Go.Proofs
end Go.Tv
end
