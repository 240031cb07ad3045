import Derived.Test.YtedcgbkilmlbhaaGreatPk11
section
namespace Go.Tv
open Go Go.Di Go.Proofs
set_option maxRecDepth 100000
def Lk:List TV→Dn
 | [.agg [.sl (.int .i64) u .no,.sl (.int .i64) l .no,.val (.int .i64 w),.sl (.int .i64) q .no],.val (.int .i64 0)]=>some ([Ok u l w q],.res (M9 u l w q) [] [],
  [(8,.ex Nat fun i => .st { sl:=[(6,dn i)],pl:=[(13,[.sl bZ u (.oR 5),.sl bZ l (.oR 9),dn w,.sl bZ (dN 0 q i) (.oR 14)])],own:=[(3,1)],eF:=[i≤4],m:=4-i })])
 | _=>none
theorem xg {u l q:List Int} {w:Int} (h:Ok u l w q):dN 0 q 4=q:=by
 have nd:∀ {m:List Int},m.Pairwise (· < ·)→m.Nodup:=fun h=>h.imp fun h=>by omega
 have e:∀ z:Int,0≤z∧z≤3→BH z 0=z:=fun z hz=>by
  have:z=0∨z=1∨z=2∨z=3:=by omega
  rcases this with rfl | rfl | rfl | rfl<;>decide
 refine List.Perm.eq_of_pairwise (le:=fun a b:Int=>a<b) (fun a b _ _ h1 h2=>by omega) (CO _ _ _) h.Zb ((List.perm_ext_iff_of_nodup (nd (CO _ _ _)) (nd h.Zb)).2 fun z => ?_)
 simp only[dN,List.mem_filter,fN,List.mem_range,bJ]
 constructor
 ·rintro⟨⟨k,hk,rfl⟩,h1⟩
  rwa [e _ (by simp only[Int.ofNat_eq_natCast]; omega)] at h1
 ·intro h1
  have:=h.Zn z h1
  exact⟨⟨z.toNat,by omega,by simp only[Int.ofNat_eq_natCast]; omega⟩,by rwa [e z this]⟩
theorem ab7:VO T1 Tryz.f81 [some fD] 1 3 Lk:=by
 refine U0 fun a => ?_
 unfold Lk
 split
 rotate_left
 ·trivial
 rename_i u l w q
 intro hp
 refine Dd (A:=0+u.length≤1000000000∧0+l.length≤1000000000∧(∃ (a:Nat),0=(↑a:Int)∧u=u∧l=l∧w=w∧[]=dN (0:Int) q a∧a≤4∧4-a<1000000)∧∀ (a:Nat),a≤4→aN (decide ((↑a:Int)≤3)) (q.length≤1000∧aN (decide (IntKind.i64.wrap (↑(BitVec.ofInt 64 (↑a:Int) ^^^ BitVec.ofInt 64 (0:Int)).toNat:Int)∈q)) ((dN (0:Int) q a).length+1≤1000000000∧dZ ((↑a:Int)+1)∧∃ (a_1:Nat),(0:Int)=0∧(↑a:Int)+1=(↑a_1:Int)∧u=u∧l=l∧w=w∧q=q∧(0:Int)=0∧u=u∧l=l∧w=w∧dN (0:Int) q a++[(↑a:Int)]=dN (0:Int) q a_1∧a_1≤4∧4-a_1<4-a) (dZ ((↑a:Int)+1)∧∃ (a_1:Nat),(0:Int)=0∧(↑a:Int)+1=(↑a_1:Int)∧u=u∧l=l∧w=w∧q=q∧(0:Int)=0∧u=u∧l=l∧w=w∧dN (0:Int) q a=dN (0:Int) q a_1∧a_1≤4∧4-a_1<4-a)) (l≠[]∧u=u∧l=l∧w=w∧dN (0:Int) q a=q∧True)) (by kernel_rfl) ?_
 obtain⟨h,-⟩:=hp
 simp only[cL,cM,cC,c9,eq_self,true_and,and_true,dZ,Int.ofNat_lt,gt_iff_lt]
 have n:=h.num
 have e:=xg h
 have el:=mB 0 q 4
 rw[e] at el
 refine⟨by omega,by omega,⟨0,rfl,rfl,by omega,by omega⟩,fun i hi=>⟨fun h3=>⟨by omega,?_⟩,fun h3=>⟨tL (by omega),by rw[show i=4 by omega]; exact e⟩⟩⟩
 have hx:=mB 0 q i
 change (BH i 0∈q→_)∧(¬ BH i 0∈q→_)
 exact⟨fun h=>⟨by omega,⟨by omega,by omega⟩,i+1,by omega,xh h,by omega,by omega⟩,fun h=>⟨⟨by omega,by omega⟩,i+1,by omega,AB h,by omega,by omega⟩⟩
theorem ab6:VO T1 Tryz.f81 [some fD] 0 3 Lk:=by
 refine U0 fun a => ?_
 unfold Lk
 split
 rotate_left
 ·trivial
 rename_i u l w q
 intro hp
 refine Dd (A:=0+u.length≤1000000000∧0+l.length≤1000000000∧(∃ (a:Nat),0=(↑a:Int)∧u=u∧l=l∧w=w∧[]=dN (0:Int) q a∧a≤4∧4-a<1000000)∧∀ (a:Nat),a≤4→aN (decide ((↑a:Int)≤3)) (q.length≤1000∧aN (decide (IntKind.i64.wrap (↑(BitVec.ofInt 64 (↑a:Int) ^^^ BitVec.ofInt 64 (0:Int)).toNat:Int)∈q)) ((dN (0:Int) q a).length+1≤1000000000∧dZ ((↑a:Int)+1)∧∃ (a_1:Nat),(0:Int)=0∧(↑a:Int)+1=(↑a_1:Int)∧u=u∧l=l∧w=w∧q=q∧(0:Int)=0∧u=u∧l=l∧w=w∧dN (0:Int) q a++[(↑a:Int)]=dN (0:Int) q a_1∧a_1≤4∧4-a_1<4-a) (dZ ((↑a:Int)+1)∧∃ (a_1:Nat),(0:Int)=0∧(↑a:Int)+1=(↑a_1:Int)∧u=u∧l=l∧w=w∧q=q∧(0:Int)=0∧u=u∧l=l∧w=w∧dN (0:Int) q a=dN (0:Int) q a_1∧a_1≤4∧4-a_1<4-a)) (u≠[]∧u=u∧l=l∧w=w∧dN (0:Int) q a=q∧True)) (by kernel_rfl) ?_
 obtain⟨h,-⟩:=hp
 simp only[cL,cM,cC,c9,eq_self,true_and,and_true,dZ,Int.ofNat_lt,gt_iff_lt]
 have n:=h.num
 have e:=xg h
 have el:=mB 0 q 4
 rw[e] at el
 refine⟨by omega,by omega,⟨0,rfl,rfl,by omega,by omega⟩,fun i hi=>⟨fun h3=>⟨by omega,?_⟩,fun h3=>⟨tL (by omega),by rw[show i=4 by omega]; exact e⟩⟩⟩
 have hx:=mB 0 q i
 change (BH i 0∈q→_)∧(¬ BH i 0∈q→_)
 exact⟨fun h=>⟨by omega,⟨by omega,by omega⟩,i+1,by omega,xh h,by omega,by omega⟩,fun h=>⟨⟨by omega,by omega⟩,i+1,by omega,AB h,by omega,by omega⟩⟩
theorem zb {u l q c:List Int} {w:Int} (k:Int) (h:jD u l w q c=k) (hk:k≠0):∃ (a a1:List Int) (a2:Int) (a3 a4 a5:List Int) (a6:Int) (a7:List Int) (a8:Int),[]=a∧[]=a1∧0=a2∧[]=a3∧[]=a4∧[]=a5∧0=a6∧[]=a7∧k=a8∧pd a a1 a2 a3=sI u l w q c∧pd a4 a5 a6 a7=sJ u l w q c∧a8=jD u l w q c :=
 ⟨_,_,_,_,_,_,_,_,_,rfl,rfl,rfl,rfl,rfl,rfl,rfl,rfl,rfl,by rw[sI,if_neg (by rw[h]; exact hk)],by rw[sJ,if_neg (by rw[h]; exact hk)],h.symm⟩
theorem set_drop {A l:List Int} {i:Nat} {x:Int} (hA:A.length=i) (hi:i<l.length):(A++l.drop i).set i x=A++[x]++l.drop (i+1):=by
 rw[List.set_append_right _ _ (by omega),hA,Nat.sub_self,mg hi,jQ]
 rfl
def R4:gD:=(G3.NU 81 1 3 fun a=>dS (Lk a)).NU 81 0 3 fun a=>dS (Lk a)
def Xr:List TV→Dn
 | [.agg [.sl (.int .i64) u .no,.sl (.int .i64) l .no,.val (.int .i64 w),.sl (.int .i64) q .no],.sl (.int .i64) c .no]=>some ([Sh u l q,c.length≤1000],.ex (List Int) fun u1 => .ex (List Int) fun l1 => .ex Int fun w1 => .ex (List Int) fun q1 => .ex (List Int) fun u2 => .ex (List Int) fun l2 => .ex Int fun w2 => .ex (List Int) fun q2 => .ex Int fun e => .res (.tup [M9 u1 l1 w1 q1,M9 u2 l2 w2 q2,dn e]) [] [pd u1 l1 w1 q1=sI u l w q c,pd u2 l2 w2 q2=sJ u l w q c,e=jD u l w q c],
  [(18,.ex Nat fun i => .st { sl:=[(11,dn i)],mp:=[(4,⟨bZ,c.take i++l.drop i⟩),(6,⟨bZ,(c.take i).map (9-·)++u.drop i⟩)],eF:=[i≤c.length],m:=c.length-i })])
 | _=>none
def zD.q1 (p0 p1:List Int) (p2:Int) (p3:List Int) (p4:Prop):Prop:=[]=p0∧[]=p1∧0=p2∧[]=p3∧p4
def zD.q2 (p0 p1:List bZ.den) (p2:Int) (p3 p4:List bZ.den) (p5:Int):Prop:=∃ (a:List Int),∃ (a_1:List Int),∃ (a_2:Int),∃ (a_3:List Int),∃ (a_4:List Int),∃ (a_5:List Int),∃ (a_6:Int),∃ (a_7:List Int),∃ (a_8:Int),zD.q1 a a_1 a_2 a_3 (zD.q1 a_4 a_5 a_6 a_7 (p5=a_8∧pd a a_1 a_2 a_3=sI p0 p1 p2 p3 p4∧pd a_4 a_5 a_6 a_7=sJ p0 p1 p2 p3 p4∧a_8=jD p0 p1 p2 p3 p4∧True))
theorem zD:VI R4 Tryz.f45 [some fD,some fD,some bZ] Xr:=by
 refine lC fun a => ?_
 unfold Xr
 split
 rotate_left
 ·trivial
 rename_i u l w q c
 intro hp
 refine Dd (A:=Sh u l q∧aN (iW u l w q !=0) (zD.q2 u l w q c (iW u l w q)) (aN (decide ((↑c.length:Int)<(↑u.length:Int))) (zD.q2 u l w q c (7:Int)) (aN (decide ((↑c.length:Int)>(↑u.length:Int))) (zD.q2 u l w q c (6:Int)) (c.length≤1000∧∀ (a:Int),(a=if c.all (lg (9:Int))=true then (0:Int) else (1:Int))→aN (a !=0) (zD.q2 u l w q c a) (Ok u l w q∧Ok u l w q∧(∃ (a:Nat),0=(↑a:Int)∧l=List.take a c++List.drop a l∧u=List.map (fun(x:bZ.den)=>(9:bZ.den)-x) (List.take a c)++List.drop a u∧a≤c.length∧c.length-a<1000000)∧∀ (a:Nat),a≤c.length→aN (decide ((↑a:Int)<(↑c.length:Int))) ((0≤(↑a:Int)∧(↑a:Int)<(↑c.length:Int))∧(0≤(↑a:Int)∧(↑a:Int)<(↑c.length:Int))∧dZ ((9:Int)-c.getD a 0)∧(0≤(↑a:Int)∧(↑a:Int)<(↑(List.take a c++List.drop a l).length:Int))∧True∧(0≤(↑a:Int)∧(↑a:Int)<(↑(List.map (fun(x:bZ.den)=>(9:bZ.den)-x) (List.take a c)++List.drop a u).length:Int))∧True∧dZ ((↑a:Int)+1)∧∃ (a_1:Nat),c=c∧(0:Int)=0∧(↑a:Int)+1=(↑a_1:Int)∧u=u∧l=l∧w=w∧q=q∧(0:Int)=0∧(0:Int)=0∧(List.take a c++List.drop a l).set a (c.getD a 0)=List.take a_1 c++List.drop a_1 l∧(List.map (fun(x:bZ.den)=>(9:bZ.den)-x) (List.take a c)++List.drop a u).set a ((9:Int)-c.getD a 0)=List.map (fun(x:bZ.den)=>(9:bZ.den)-x) (List.take a_1 c)++List.drop a_1 u∧u=u∧w=w∧q=q∧l=l∧w=w∧q=q∧a_1≤c.length∧c.length-a_1<c.length-a) (∃ (a_1:List Int),∃ (a_2:List Int),∃ (a_3:Int),∃ (a_4:List Int),∃ (a_5:List Int),∃ (a_6:List Int),∃ (a_7:Int),∃ (a_8:List Int),∃ (a_9:Int),u=a_1∧List.take a c++List.drop a l=a_2∧w=a_3∧q=a_4∧List.map (fun(x:bZ.den)=>(9:bZ.den)-x) (List.take a c)++List.drop a u=a_5∧l=a_6∧w=a_7∧q=a_8∧0=a_9∧pd a_1 a_2 a_3 a_4=sI u l w q c∧pd a_5 a_6 a_7 a_8=sJ u l w q c∧a_9=jD u l w q c∧True)))))) (by kernel_rfl) ?_
 unfold zD.q2 zD.q1
 obtain⟨⟨s1,s2,s3⟩,hc,-⟩:=hp
 simp only[cL,cM,cC,c9,eq_self,true_and,and_true,dZ,Int.ofNat_lt,gt_iff_lt]
 refine⟨⟨s1,s2,s3⟩,fun e0=>⟨fun h=>zb _ (by rw[jD,if_neg fun k=>k e0,if_pos h]) (by decide),fun h1=>⟨fun h=>zb _ (by rw[jD,if_neg fun k=>k e0,if_neg h1,if_pos h]) (by decide),fun h2=>⟨hc,fun e he=>⟨fun h0 => ?_,fun h0=>zb _ (by rw[jD,if_neg fun k=>k e0,if_neg h1,if_neg h2,he]) h0⟩⟩⟩⟩,fun e0=>zb _ (by rw[jD,if_pos e0]) e0⟩
 have h3:jD u l w q c=0:=by rw[jD,if_neg fun k=>k e0,if_neg h1,if_neg h2,← he,h0]
 obtain⟨h,hl,hh⟩:=OJ h3
 have n:=h.num
 refine⟨h,h,⟨0,rfl,rfl,rfl,by omega,by omega⟩,fun i hi=>⟨fun Bu => ?_,fun Bu => ?_⟩⟩
 ·have b:=hh _ (jV (l:=c) (i:=i) (by omega))
  have t1:(c.take i).length=i:=by rw[lY]; omega
  have t2:((c.take i).map fun x=>9-x).length=i:=by rw[jh]; exact t1
  have t3:(l.drop i).length=l.length-i:=List.length_drop
  have t4:(u.drop i).length=u.length-i:=List.length_drop
  refine⟨⟨by omega,by omega⟩,⟨by omega,by omega⟩,⟨by omega,by omega⟩,⟨by omega,by rw[cO]; omega⟩,⟨by omega,by rw[cO,jh]; omega⟩,⟨by omega,by omega⟩,i+1,by omega,?_,?_,by omega,by omega⟩
  ·rw[set_drop t1 (by omega),← take_one (by omega)]
  ·rw[set_drop t2 (by omega),nY (f:=fun x=>9-x) (by omega)]
 ·rw[show i=c.length by omega,fo,gz (by omega),gz (by omega),gu,gu]
  exact⟨_,_,_,_,_,_,_,_,_,rfl,rfl,rfl,rfl,rfl,rfl,rfl,rfl,rfl,by rw[sI,if_pos h3],by rw[sJ,if_pos h3],h3.symm⟩
end Go.Tv
end
section
namespace Go.Tv
open Go Go.Di Go.Proofs
set_option maxRecDepth 100000
def D41:List TV→List TV→Dn
  | [.ptr 0 0,.agg [.sl (.int .i64) au .no,.sl (.int .i64) al .no,.val (.int .i64 aw),.sl (.int .i64) aq .no]],[.sl (.int .i64) _ .no,.val (.int .u64 _)]=>some ([Ok au al aw aq],.ex (List Int) fun o => .ex (List Int) fun r => .ex Int fun z => .res (.sl bZ o .no) (BQ r z) [o.length=au.length,oS o],[])
  | _,_=>none
theorem v41:VC T4 Tryz.f41 [some cE] [some cE,some (.int .u64)] D41:=by
  refine aaT fun a cs => ?_
  unfold D41
  split
  rotate_left
  · trivial
  rename_i u l w ls r z
  intro hp
  refine Dd (A:=0≤(↑u.length:Int)∧(↑u.length:Int)≤100∧∀ (a a_1:List Int) (a_2:Int),(↑a.length:Int)=(↑u.length:Int)→oS a→∃ (a_3:List Int),∃ (a_4:List Int),∃ (a_5:Int),a=a_3∧a_1=a_4∧a_2=a_5∧a_3.length=u.length∧oS a_3∧True) (by kernel_rfl) ?_
  have h1:=hp.1
  have:=h1.num
  exact⟨by omega,by omega,fun o r z h2 h3=>⟨o,r,z,rfl,rfl,rfl,by omega,h3,trivial⟩⟩
theorem Aw {u l q:List Int} {w:Int} (h:Ok u l w q):jJ (u,l,w,q,()):=by
  have n:=h.num
  have el:=mB 0 q 4
  rw[xg h] at el
  exact⟨by simp only; omega,by simp only; omega,by simp only; omega⟩
theorem Ei {α:Type} {P:α→Prop} {a b c d e:α} {i:Nat} (hi:i<4) (ha:P a) (hb:P b) (hc:P c) (hd:P d):P ([a,b,c,d].getD i e):=by
  have hl:i<[a,b,c,d].length:=hi
  rw[aO,bV hl]
  have hm:=pI hl
  revert hm
  generalize [a,b,c,d][i]=p
  simp only[bt,dL,or_false]
  rintro(rfl | rfl | rfl | rfl)<;>assumption
theorem XP {u l q c:List Int} {w:Int} (h:jJ (u,l,w,q,())) (hc:c.length≤1000) {u1 l1 q1 u2 l2 q2:List Int} {w1 w2:Int} (h1:pd u1 l1 w1 q1=sI u l w q c) (h2:pd u2 l2 w2 q2=sJ u l w q c):Sh u1 l1 q1∧Sh u2 l2 q2:=by
  obtain⟨a,b,d⟩:=h
  simp only at a b d
  by_cases e:jD u l w q c=0
  · rw[sI,if_pos e] at h1
    rw[sJ,if_pos e] at h2
    cases h1; cases h2
    exact⟨⟨a,hc,d⟩,by rw[jh]; exact hc,b,d⟩
  · rw[sI,if_neg e] at h1
    rw[sJ,if_neg e] at h2
    cases h1; cases h2
    exact⟨⟨by decide,by decide,by decide⟩,by decide,by decide,by decide⟩
theorem XG {a b:PD} (ha:jJ a) (hb:jJ b) {u1 l1 q1:List Int} {w1:Int} (h1:pd u1 l1 w1 q1=yH a b):Sh u1 l1 q1:=by
  by_cases e:qn a b=0
  · rw[yH,if_pos e] at h1
    cases h1
    exact⟨ha.1,hb.2.1,bk (rS _ _) ha.2.2⟩
  · rw[yH,if_neg e] at h1
    cases h1
    exact⟨by decide,by decide,by decide⟩
def R5:gD:=(((((T6.dX 11 fun a=>dS (D18 a)).sR 41 fun a c=>dS (D41 a c)).dX 42 fun a=>dS (D20 a)).dX 43 S58).dX 48 fun a=>dS (D26 a)).dX 49 fun a=>dS (D25 a)
def R6:gD:=(((R5.dX 44 fun a=>dS (Xs a)).dX 45 fun a=>dS (Xr a)).dX 46 fun a=>dS (Ll 15 10 69 a)).dX 47 fun a=>dS (Ll 14 7 8 a)
def D6:List TV→Dn
  | [.agg [.sl (.int .i64) _ .no,.sl (.int .i64) _ .no,.val (.int .i64 _),.sl (.int .i64) _ .no],.agg [.sl (.int .i64) _ .no,.sl (.int .i64) _ .no,.val (.int .i64 _),.sl (.int .i64) _ .no],.sl (.int .i64) _ .no,.sl (.int .i64) _ .no]=>some ([],.res (o6 true) [] [],
     [(10,.ex Nat fun i => .st { sl:=[(15,dn i)],eF:=[i≤4],m:=4-i })])
  | _=>none
def v6.q1 (p0 p1:List bZ.den) (p2:Int) (p3:List bZ.den) (p4 p5:List Int) (p6:Int) (p7 p8 p9:List Int) (EM:Int) (Nc:List Int) (Na:Nat) (VX:Prop):Prop:=Sh ([(p0,p1,p2,p3,()),(p4,p5,p6,p7,()),(p4,p5,p6,p7,()),(p8,p9,EM,Nc,())].getD Na ([],[],0,[],())).fst ([(p0,p1,p2,p3,()),(p4,p5,p6,p7,()),(p4,p5,p6,p7,()),(p8,p9,EM,Nc,())].getD Na ([],[],0,[],())).snd.fst ([(p0,p1,p2,p3,()),(p4,p5,p6,p7,()),(p4,p5,p6,p7,()),(p8,p9,EM,Nc,())].getD Na ([],[],0,[],())).snd.snd.snd.fst∧VX
def v6.q2 (p0 p1:List bZ.den) (p2:Int) (p3:List bZ.den) (p4 p5:List Int) (p6:Int) (p7 p8 p9:List Int) (EM:Int) (Nc:List Int) (Na:Nat) (VX:Prop):Prop:=Sh ([(p0,p1,p2,p3,()),(p4,p5,p6,p7,()),(p8,p9,EM,Nc,()),(p0,p1,p2,p3,())].getD Na ([],[],0,[],())).fst ([(p0,p1,p2,p3,()),(p4,p5,p6,p7,()),(p8,p9,EM,Nc,()),(p0,p1,p2,p3,())].getD Na ([],[],0,[],())).snd.fst ([(p0,p1,p2,p3,()),(p4,p5,p6,p7,()),(p8,p9,EM,Nc,()),(p0,p1,p2,p3,())].getD Na ([],[],0,[],())).snd.snd.snd.fst∧VX
def v6.q3 (p0:Nat) (p1:Prop):Prop:=(0≤(↑p0:Int)∧(↑p0:Int)<(↑(4:Nat):Int))∧p1
def v6.q4 (p0:List bZ.den) (p1 p2:List Int) (p3:Nat) (p4:Prop):Prop:=List.length ([p0,p1,p0,p2].getD p3 [])≤1000∧p4
theorem v6:VI R6 Tryz.f6 [some .bool] D6:=by
  refine lC fun a => ?_
  unfold D6
  split
  rotate_left
  · trivial
  rename_i au al aw aq bu bl bw bq c HB
  intro hp
  refine Dd (A:=∀ (a:Bool),a=(decide (2≤20)&&[(au,al,aw,aq,()),(bu,bl,bw,bq,())].all KY)→aN (!a) (true=true∧True) (aN (decide ((↑c.length:Int)>20)) (true=true∧True) ((3:Int)≤6∧(6:Int)≤8∧∀ (a a_1:List Int) (a_2:Int) (a_3 a_4:List Int) (a_5:Int),Ok a a_1 a_2 a_3→(↑a.length:Int)≤6→Ok a a_1 a_2 a_3∧∀ (a_6 a_7:List Int) (a_8:Int) (a_9 a_10:List Int) (a_11:Int),Ok a_6 a_7 a_8 a_9→a_6=List.map (fun(x:bZ.den)=>(9:bZ.den)-x) a_1→(3:Int)≤4∧(4:Int)≤8∧∀ (a_12 a_13:List Int) (a_14:Int) (a_15 a_16:List Int) (a_17:Int),Ok a_12 a_13 a_14 a_15→(↑a_12.length:Int)≤4→Ok a a_1 a_2 a_3∧∀ (a_18 a_19:List Int) (a_20:Int),a_18.length=a.length→oS a_18→Ok a_6 a_7 a_8 a_9∧∀ (a_21 a_22:List Int) (a_23:Int),a_21.length=a_6.length→oS a_21→(∃ (a:Nat),0=(↑a:Int)∧a≤4∧4-a<1000000)∧∀ (a_24:Nat),a_24≤4→aN (decide ((↑a_24:Int)<(↑(4:Nat):Int))) (v6.q3 a_24 (v6.q1 au al aw aq a a_1 a_2 a_3 a_6 a_7 a_8 a_9 a_24 (v6.q3 a_24 (v6.q2 bu bl bw bq a_6 a_7 a_8 a_9 a_12 a_13 a_14 a_15 a_24 (v6.q3 a_24 (v6.q4 c a_18 a_21 a_24 (v6.q1 au al aw aq a a_1 a_2 a_3 a_6 a_7 a_8 a_9 a_24 (v6.q4 c a_18 a_21 a_24 (∀ (a_25 a_26:List Int) (a_27:Int) (a_28 a_29 a_30:List Int) (a_31:Int) (a_32:List Int) (a_33:Int),pd a_25 a_26 a_27 a_28=sI ([(au,al,aw,aq,()),(a,a_1,a_2,a_3,()),(a,a_1,a_2,a_3,()),(a_6,a_7,a_8,a_9,())].getD a_24 ([],[],0,[],())).fst ([(au,al,aw,aq,()),(a,a_1,a_2,a_3,()),(a,a_1,a_2,a_3,()),(a_6,a_7,a_8,a_9,())].getD a_24 ([],[],0,[],())).snd.fst ([(au,al,aw,aq,()),(a,a_1,a_2,a_3,()),(a,a_1,a_2,a_3,()),(a_6,a_7,a_8,a_9,())].getD a_24 ([],[],0,[],())).snd.snd.fst ([(au,al,aw,aq,()),(a,a_1,a_2,a_3,()),(a,a_1,a_2,a_3,()),(a_6,a_7,a_8,a_9,())].getD a_24 ([],[],0,[],())).snd.snd.snd.fst ([c,a_18,c,a_21].getD a_24 [])→pd a_29 a_30 a_31 a_32=sJ ([(au,al,aw,aq,()),(a,a_1,a_2,a_3,()),(a,a_1,a_2,a_3,()),(a_6,a_7,a_8,a_9,())].getD a_24 ([],[],0,[],())).fst ([(au,al,aw,aq,()),(a,a_1,a_2,a_3,()),(a,a_1,a_2,a_3,()),(a_6,a_7,a_8,a_9,())].getD a_24 ([],[],0,[],())).snd.fst ([(au,al,aw,aq,()),(a,a_1,a_2,a_3,()),(a,a_1,a_2,a_3,()),(a_6,a_7,a_8,a_9,())].getD a_24 ([],[],0,[],())).snd.snd.fst ([(au,al,aw,aq,()),(a,a_1,a_2,a_3,()),(a,a_1,a_2,a_3,()),(a_6,a_7,a_8,a_9,())].getD a_24 ([],[],0,[],())).snd.snd.snd.fst ([c,a_18,c,a_21].getD a_24 [])→a_33=jD ([(au,al,aw,aq,()),(a,a_1,a_2,a_3,()),(a,a_1,a_2,a_3,()),(a_6,a_7,a_8,a_9,())].getD a_24 ([],[],0,[],())).fst ([(au,al,aw,aq,()),(a,a_1,a_2,a_3,()),(a,a_1,a_2,a_3,()),(a_6,a_7,a_8,a_9,())].getD a_24 ([],[],0,[],())).snd.fst ([(au,al,aw,aq,()),(a,a_1,a_2,a_3,()),(a,a_1,a_2,a_3,()),(a_6,a_7,a_8,a_9,())].getD a_24 ([],[],0,[],())).snd.snd.fst ([(au,al,aw,aq,()),(a,a_1,a_2,a_3,()),(a,a_1,a_2,a_3,()),(a_6,a_7,a_8,a_9,())].getD a_24 ([],[],0,[],())).snd.snd.snd.fst ([c,a_18,c,a_21].getD a_24 [])→v6.q3 a_24 (v6.q3 a_24 (v6.q1 au al aw aq a a_1 a_2 a_3 a_6 a_7 a_8 a_9 a_24 (v6.q4 c a_18 a_21 a_24 (∀ (a_34 a_35:List Int) (a_36:Int) (a_37 a_38 a_39:List Int) (a_40:Int) (a_41:List Int) (a_42:Int),pd a_34 a_35 a_36 a_37=sI ([(au,al,aw,aq,()),(a,a_1,a_2,a_3,()),(a,a_1,a_2,a_3,()),(a_6,a_7,a_8,a_9,())].getD a_24 ([],[],0,[],())).fst ([(au,al,aw,aq,()),(a,a_1,a_2,a_3,()),(a,a_1,a_2,a_3,()),(a_6,a_7,a_8,a_9,())].getD a_24 ([],[],0,[],())).snd.fst ([(au,al,aw,aq,()),(a,a_1,a_2,a_3,()),(a,a_1,a_2,a_3,()),(a_6,a_7,a_8,a_9,())].getD a_24 ([],[],0,[],())).snd.snd.fst ([(au,al,aw,aq,()),(a,a_1,a_2,a_3,()),(a,a_1,a_2,a_3,()),(a_6,a_7,a_8,a_9,())].getD a_24 ([],[],0,[],())).snd.snd.snd.fst ([c,a_18,c,a_21].getD a_24 [])→pd a_38 a_39 a_40 a_41=sJ ([(au,al,aw,aq,()),(a,a_1,a_2,a_3,()),(a,a_1,a_2,a_3,()),(a_6,a_7,a_8,a_9,())].getD a_24 ([],[],0,[],())).fst ([(au,al,aw,aq,()),(a,a_1,a_2,a_3,()),(a,a_1,a_2,a_3,()),(a_6,a_7,a_8,a_9,())].getD a_24 ([],[],0,[],())).snd.fst ([(au,al,aw,aq,()),(a,a_1,a_2,a_3,()),(a,a_1,a_2,a_3,()),(a_6,a_7,a_8,a_9,())].getD a_24 ([],[],0,[],())).snd.snd.fst ([(au,al,aw,aq,()),(a,a_1,a_2,a_3,()),(a,a_1,a_2,a_3,()),(a_6,a_7,a_8,a_9,())].getD a_24 ([],[],0,[],())).snd.snd.snd.fst ([c,a_18,c,a_21].getD a_24 [])→a_42=jD ([(au,al,aw,aq,()),(a,a_1,a_2,a_3,()),(a,a_1,a_2,a_3,()),(a_6,a_7,a_8,a_9,())].getD a_24 ([],[],0,[],())).fst ([(au,al,aw,aq,()),(a,a_1,a_2,a_3,()),(a,a_1,a_2,a_3,()),(a_6,a_7,a_8,a_9,())].getD a_24 ([],[],0,[],())).snd.fst ([(au,al,aw,aq,()),(a,a_1,a_2,a_3,()),(a,a_1,a_2,a_3,()),(a_6,a_7,a_8,a_9,())].getD a_24 ([],[],0,[],())).snd.snd.fst ([(au,al,aw,aq,()),(a,a_1,a_2,a_3,()),(a,a_1,a_2,a_3,()),(a_6,a_7,a_8,a_9,())].getD a_24 ([],[],0,[],())).snd.snd.snd.fst ([c,a_18,c,a_21].getD a_24 [])→v6.q1 au al aw aq a a_1 a_2 a_3 a_6 a_7 a_8 a_9 a_24 (v6.q2 bu bl bw bq a_6 a_7 a_8 a_9 a_12 a_13 a_14 a_15 a_24 (∀ (a_43 a_44:List Int) (a_45:Int) (a_46:List Int) (a_47:Int),pd a_43 a_44 a_45 a_46=yH (pd ([(au,al,aw,aq,()),(a,a_1,a_2,a_3,()),(a,a_1,a_2,a_3,()),(a_6,a_7,a_8,a_9,())].getD a_24 ([],[],0,[],())).fst ([(au,al,aw,aq,()),(a,a_1,a_2,a_3,()),(a,a_1,a_2,a_3,()),(a_6,a_7,a_8,a_9,())].getD a_24 ([],[],0,[],())).snd.fst ([(au,al,aw,aq,()),(a,a_1,a_2,a_3,()),(a,a_1,a_2,a_3,()),(a_6,a_7,a_8,a_9,())].getD a_24 ([],[],0,[],())).snd.snd.fst ([(au,al,aw,aq,()),(a,a_1,a_2,a_3,()),(a,a_1,a_2,a_3,()),(a_6,a_7,a_8,a_9,())].getD a_24 ([],[],0,[],())).snd.snd.snd.fst) (pd ([(bu,bl,bw,bq,()),(a_6,a_7,a_8,a_9,()),(a_12,a_13,a_14,a_15,()),(bu,bl,bw,bq,())].getD a_24 ([],[],0,[],())).fst ([(bu,bl,bw,bq,()),(a_6,a_7,a_8,a_9,()),(a_12,a_13,a_14,a_15,()),(bu,bl,bw,bq,())].getD a_24 ([],[],0,[],())).snd.fst ([(bu,bl,bw,bq,()),(a_6,a_7,a_8,a_9,()),(a_12,a_13,a_14,a_15,()),(bu,bl,bw,bq,())].getD a_24 ([],[],0,[],())).snd.snd.fst ([(bu,bl,bw,bq,()),(a_6,a_7,a_8,a_9,()),(a_12,a_13,a_14,a_15,()),(bu,bl,bw,bq,())].getD a_24 ([],[],0,[],())).snd.snd.snd.fst)→a_47=qn (pd ([(au,al,aw,aq,()),(a,a_1,a_2,a_3,()),(a,a_1,a_2,a_3,()),(a_6,a_7,a_8,a_9,())].getD a_24 ([],[],0,[],())).fst ([(au,al,aw,aq,()),(a,a_1,a_2,a_3,()),(a,a_1,a_2,a_3,()),(a_6,a_7,a_8,a_9,())].getD a_24 ([],[],0,[],())).snd.fst ([(au,al,aw,aq,()),(a,a_1,a_2,a_3,()),(a,a_1,a_2,a_3,()),(a_6,a_7,a_8,a_9,())].getD a_24 ([],[],0,[],())).snd.snd.fst ([(au,al,aw,aq,()),(a,a_1,a_2,a_3,()),(a,a_1,a_2,a_3,()),(a_6,a_7,a_8,a_9,())].getD a_24 ([],[],0,[],())).snd.snd.snd.fst) (pd ([(bu,bl,bw,bq,()),(a_6,a_7,a_8,a_9,()),(a_12,a_13,a_14,a_15,()),(bu,bl,bw,bq,())].getD a_24 ([],[],0,[],())).fst ([(bu,bl,bw,bq,()),(a_6,a_7,a_8,a_9,()),(a_12,a_13,a_14,a_15,()),(bu,bl,bw,bq,())].getD a_24 ([],[],0,[],())).snd.fst ([(bu,bl,bw,bq,()),(a_6,a_7,a_8,a_9,()),(a_12,a_13,a_14,a_15,()),(bu,bl,bw,bq,())].getD a_24 ([],[],0,[],())).snd.snd.fst ([(bu,bl,bw,bq,()),(a_6,a_7,a_8,a_9,()),(a_12,a_13,a_14,a_15,()),(bu,bl,bw,bq,())].getD a_24 ([],[],0,[],())).snd.snd.snd.fst)→v6.q3 a_24 (v6.q3 a_24 (v6.q1 au al aw aq a a_1 a_2 a_3 a_6 a_7 a_8 a_9 a_24 (v6.q2 bu bl bw bq a_6 a_7 a_8 a_9 a_12 a_13 a_14 a_15 a_24 (∀ (a_48 a_49:List Int) (a_50:Int) (a_51:List Int) (a_52:Int),pd a_48 a_49 a_50 a_51=yH (pd ([(au,al,aw,aq,()),(a,a_1,a_2,a_3,()),(a,a_1,a_2,a_3,()),(a_6,a_7,a_8,a_9,())].getD a_24 ([],[],0,[],())).fst ([(au,al,aw,aq,()),(a,a_1,a_2,a_3,()),(a,a_1,a_2,a_3,()),(a_6,a_7,a_8,a_9,())].getD a_24 ([],[],0,[],())).snd.fst ([(au,al,aw,aq,()),(a,a_1,a_2,a_3,()),(a,a_1,a_2,a_3,()),(a_6,a_7,a_8,a_9,())].getD a_24 ([],[],0,[],())).snd.snd.fst ([(au,al,aw,aq,()),(a,a_1,a_2,a_3,()),(a,a_1,a_2,a_3,()),(a_6,a_7,a_8,a_9,())].getD a_24 ([],[],0,[],())).snd.snd.snd.fst) (pd ([(bu,bl,bw,bq,()),(a_6,a_7,a_8,a_9,()),(a_12,a_13,a_14,a_15,()),(bu,bl,bw,bq,())].getD a_24 ([],[],0,[],())).fst ([(bu,bl,bw,bq,()),(a_6,a_7,a_8,a_9,()),(a_12,a_13,a_14,a_15,()),(bu,bl,bw,bq,())].getD a_24 ([],[],0,[],())).snd.fst ([(bu,bl,bw,bq,()),(a_6,a_7,a_8,a_9,()),(a_12,a_13,a_14,a_15,()),(bu,bl,bw,bq,())].getD a_24 ([],[],0,[],())).snd.snd.fst ([(bu,bl,bw,bq,()),(a_6,a_7,a_8,a_9,()),(a_12,a_13,a_14,a_15,()),(bu,bl,bw,bq,())].getD a_24 ([],[],0,[],())).snd.snd.snd.fst)→a_52=qn (pd ([(au,al,aw,aq,()),(a,a_1,a_2,a_3,()),(a,a_1,a_2,a_3,()),(a_6,a_7,a_8,a_9,())].getD a_24 ([],[],0,[],())).fst ([(au,al,aw,aq,()),(a,a_1,a_2,a_3,()),(a,a_1,a_2,a_3,()),(a_6,a_7,a_8,a_9,())].getD a_24 ([],[],0,[],())).snd.fst ([(au,al,aw,aq,()),(a,a_1,a_2,a_3,()),(a,a_1,a_2,a_3,()),(a_6,a_7,a_8,a_9,())].getD a_24 ([],[],0,[],())).snd.snd.fst ([(au,al,aw,aq,()),(a,a_1,a_2,a_3,()),(a,a_1,a_2,a_3,()),(a_6,a_7,a_8,a_9,())].getD a_24 ([],[],0,[],())).snd.snd.snd.fst) (pd ([(bu,bl,bw,bq,()),(a_6,a_7,a_8,a_9,()),(a_12,a_13,a_14,a_15,()),(bu,bl,bw,bq,())].getD a_24 ([],[],0,[],())).fst ([(bu,bl,bw,bq,()),(a_6,a_7,a_8,a_9,()),(a_12,a_13,a_14,a_15,()),(bu,bl,bw,bq,())].getD a_24 ([],[],0,[],())).snd.fst ([(bu,bl,bw,bq,()),(a_6,a_7,a_8,a_9,()),(a_12,a_13,a_14,a_15,()),(bu,bl,bw,bq,())].getD a_24 ([],[],0,[],())).snd.snd.fst ([(bu,bl,bw,bq,()),(a_6,a_7,a_8,a_9,()),(a_12,a_13,a_14,a_15,()),(bu,bl,bw,bq,())].getD a_24 ([],[],0,[],())).snd.snd.snd.fst)→aN (a_33 !=a_42) (false=true∧True) (aN (a_47 !=a_52) (false=true∧True) (Sh a_25 a_26 a_28∧Sh a_34 a_35 a_37∧aN (!decide (a_25=a_34∧a_26=a_35∧a_27=a_36∧a_28=a_37)) (false=true∧True) (Sh a_29 a_30 a_32∧Sh a_38 a_39 a_41∧aN (!decide (a_29=a_38∧a_30=a_39∧a_31=a_40∧a_32=a_41)) (false=true∧True) (Sh a_43 a_44 a_46∧Sh a_48 a_49 a_51∧aN (!decide (a_43=a_48∧a_44=a_49∧a_45=a_50∧a_46=a_51)) (false=true∧True) (v6.q3 a_24 (v6.q1 au al aw aq a a_1 a_2 a_3 a_6 a_7 a_8 a_9 a_24 (v6.q1 au al aw aq a a_1 a_2 a_3 a_6 a_7 a_8 a_9 a_24 (aN (!decide (([(au,al,aw,aq,()),(a,a_1,a_2,a_3,()),(a,a_1,a_2,a_3,()),(a_6,a_7,a_8,a_9,())].getD a_24 ([],[],0,[],())).fst=([(au,al,aw,aq,()),(a,a_1,a_2,a_3,()),(a,a_1,a_2,a_3,()),(a_6,a_7,a_8,a_9,())].getD a_24 ([],[],0,[],())).fst∧([(au,al,aw,aq,()),(a,a_1,a_2,a_3,()),(a,a_1,a_2,a_3,()),(a_6,a_7,a_8,a_9,())].getD a_24 ([],[],0,[],())).snd.fst=([(au,al,aw,aq,()),(a,a_1,a_2,a_3,()),(a,a_1,a_2,a_3,()),(a_6,a_7,a_8,a_9,())].getD a_24 ([],[],0,[],())).snd.fst∧([(au,al,aw,aq,()),(a,a_1,a_2,a_3,()),(a,a_1,a_2,a_3,()),(a_6,a_7,a_8,a_9,())].getD a_24 ([],[],0,[],())).snd.snd.fst=([(au,al,aw,aq,()),(a,a_1,a_2,a_3,()),(a,a_1,a_2,a_3,()),(a_6,a_7,a_8,a_9,())].getD a_24 ([],[],0,[],())).snd.snd.fst∧([(au,al,aw,aq,()),(a,a_1,a_2,a_3,()),(a,a_1,a_2,a_3,()),(a_6,a_7,a_8,a_9,())].getD a_24 ([],[],0,[],())).snd.snd.snd.fst=([(au,al,aw,aq,()),(a,a_1,a_2,a_3,()),(a,a_1,a_2,a_3,()),(a_6,a_7,a_8,a_9,())].getD a_24 ([],[],0,[],())).snd.snd.snd.fst)) (false=true∧True) (v6.q3 a_24 (v6.q2 bu bl bw bq a_6 a_7 a_8 a_9 a_12 a_13 a_14 a_15 a_24 (v6.q2 bu bl bw bq a_6 a_7 a_8 a_9 a_12 a_13 a_14 a_15 a_24 (aN (!decide (([(bu,bl,bw,bq,()),(a_6,a_7,a_8,a_9,()),(a_12,a_13,a_14,a_15,()),(bu,bl,bw,bq,())].getD a_24 ([],[],0,[],())).fst=([(bu,bl,bw,bq,()),(a_6,a_7,a_8,a_9,()),(a_12,a_13,a_14,a_15,()),(bu,bl,bw,bq,())].getD a_24 ([],[],0,[],())).fst∧([(bu,bl,bw,bq,()),(a_6,a_7,a_8,a_9,()),(a_12,a_13,a_14,a_15,()),(bu,bl,bw,bq,())].getD a_24 ([],[],0,[],())).snd.fst=([(bu,bl,bw,bq,()),(a_6,a_7,a_8,a_9,()),(a_12,a_13,a_14,a_15,()),(bu,bl,bw,bq,())].getD a_24 ([],[],0,[],())).snd.fst∧([(bu,bl,bw,bq,()),(a_6,a_7,a_8,a_9,()),(a_12,a_13,a_14,a_15,()),(bu,bl,bw,bq,())].getD a_24 ([],[],0,[],())).snd.snd.fst=([(bu,bl,bw,bq,()),(a_6,a_7,a_8,a_9,()),(a_12,a_13,a_14,a_15,()),(bu,bl,bw,bq,())].getD a_24 ([],[],0,[],())).snd.snd.fst∧([(bu,bl,bw,bq,()),(a_6,a_7,a_8,a_9,()),(a_12,a_13,a_14,a_15,()),(bu,bl,bw,bq,())].getD a_24 ([],[],0,[],())).snd.snd.snd.fst=([(bu,bl,bw,bq,()),(a_6,a_7,a_8,a_9,()),(a_12,a_13,a_14,a_15,()),(bu,bl,bw,bq,())].getD a_24 ([],[],0,[],())).snd.snd.snd.fst)) (false=true∧True) (v6.q3 a_24 (v6.q4 c a_18 a_21 a_24 (v6.q4 c a_18 a_21 a_24 (aN (!decide ([c,a_18,c,a_21].getD a_24 []=[c,a_18,c,a_21].getD a_24 [])) (false=true∧True) (dZ ((↑a_24:Int)+1)∧∃ (a_53:Nat),[(au,al,aw,aq,()),(a,a_1,a_2,a_3,()),(a,a_1,a_2,a_3,()),(a_6,a_7,a_8,a_9,())]=[(au,al,aw,aq,()),(a,a_1,a_2,a_3,()),(a,a_1,a_2,a_3,()),(a_6,a_7,a_8,a_9,())]∧[(bu,bl,bw,bq,()),(a_6,a_7,a_8,a_9,()),(a_12,a_13,a_14,a_15,()),(bu,bl,bw,bq,())]=[(bu,bl,bw,bq,()),(a_6,a_7,a_8,a_9,()),(a_12,a_13,a_14,a_15,()),(bu,bl,bw,bq,())]∧[c,a_18,c,a_21]=[c,a_18,c,a_21]∧(↑a_24:Int)+1=(↑a_53:Int)∧au=au∧al=al∧aw=aw∧aq=aq∧bu=bu∧bl=bl∧bw=bw∧bq=bq∧a_22=a_22∧a_23=a_23∧a=a∧a_1=a_1∧a_2=a_2∧a_3=a_3∧a_6=a_6∧a_7=a_7∧a_8=a_8∧a_9=a_9∧a_53≤4∧4-a_53<4-a_24)))))))))))))))))))))))))))))))))))) (true=true∧True)))) (by kernel_rfl) ?_
  unfold v6.q4 v6.q3 v6.q2 v6.q1
  simp only[cL,cM,cC,c9,eq_self,true_and,and_true,dZ,Int.ofNat_lt,gt_iff_lt]
  intro b hb
  refine lq.2 ⟨fun e=>⟨fun _=>trivial,fun hc => ?_⟩,fun _=>trivial⟩
  rw[e] at hb
  have hs:∀ p∈[pd au al aw aq,pd bu bl bw bq],jJ p:=fun p hp=>XU (aW.1 (Bool.and_eq_true_iff.1 hb.symm).2 p hp)
  clear hb e
  have sA:jJ (au,al,aw,aq,()):=hs (pd au al aw aq) (by simp)
  have sB:jJ (bu,bl,bw,bq,()):=hs (pd bu bl bw bq) (by simp)
  refine⟨by decide,by decide,fun pu pl pw pq r z oP _=>⟨oP,fun qu ql qw qq r z oQ _=>⟨by decide,by decide,fun du dl dw dq r z oD _=>⟨oP,fun x r z lx _=>⟨oQ,fun y r z ly _=>⟨⟨0,rfl,by omega,by omega⟩,fun i hi=>⟨fun hlt => ?_,fun _=>trivial⟩⟩⟩⟩⟩⟩⟩
  have nP:=oP.num
  have nQ:=oQ.num
  have sP:=Aw oP
  have sQ:=Aw oQ
  have sD:=Aw oD
  have hX:=Ei (P:=jJ) (e:=([],[],0,[],())) hlt sA sP sP sQ
  have hY:=Ei (P:=jJ) (e:=([],[],0,[],())) hlt sB sQ sD sB
  have hZ:=Ei (P:=fun l:List Int=>l.length≤1000) (e:=[]) hlt (show c.length≤1000 by omega) (show x.length≤1000 by omega) (show c.length≤1000 by omega) (show y.length≤1000 by omega)
  have e0:(0:Int)≤(i:Int)∧i<4:=⟨by omega,hlt⟩
  generalize [(au,al,aw,aq,()),(pu,pl,pw,pq,()),(pu,pl,pw,pq,()),(qu,ql,qw,qq,())].getD i ([],[],0,[],())=X at hX ⊢
  generalize [(bu,bl,bw,bq,()),(qu,ql,qw,qq,()),(du,dl,dw,dq,()),(bu,bl,bw,bq,())].getD i ([],[],0,[],())=Y at hY ⊢
  generalize [c,x,c,y].getD i []=Z at hZ ⊢
  clear hs sA sB oP oQ oD nP nQ lx ly sP sQ sD
  obtain⟨xu,xl,xw,xq,_⟩:=X
  obtain⟨yu,yl,yw,yq,_⟩:=Y
  refine⟨e0,hX,e0,hY,e0,hZ,hX,hZ,fun u1 l1 w1 q1 u2 l2 w2 q2 e h1 h2 h3=>⟨e0,e0,hX,hZ,fun v1 m1 x1 r1 v2 m2 x2 r2 f k1 k2 k3=>⟨hX,hY,fun s1 t1 y1 p1 g j1 j2=>⟨e0,e0,hX,hY,fun s2 t2 y2 p2 g2 j3 j4 => ?_⟩⟩⟩⟩
  obtain⟨S1,S2⟩:=XP hX hZ h1 h2
  obtain rfl:e=f:=h3.trans k3.symm
  obtain rfl:g=g2:=j2.trans j4.symm
  have S3:=XG hX hY j1
  cases h1.trans k1.symm
  cases h2.trans k2.symm
  cases j1.trans j3.symm
  exact⟨fun _=>⟨fun _=>⟨S1,S1,fun _=>⟨S2,S2,fun _=>⟨S3,S3,fun _=>⟨e0,hX,hX,fun _=>⟨e0,hY,hY,fun _=>⟨e0,hZ,hZ,fun _=>⟨⟨by omega,by omega⟩,i+1,rfl,by omega,by omega⟩,fun h=>(h trivial).elim⟩,fun h=>(h trivial).elim⟩,fun h=>(h trivial).elim⟩,fun h=>(h ⟨rfl,rfl,rfl,rfl⟩).elim⟩,fun h=>(h ⟨rfl,rfl,rfl,rfl⟩).elim⟩,fun h=>(h ⟨rfl,rfl,rfl,rfl⟩).elim⟩,fun h=>(h rfl).elim⟩,fun h=>(h rfl).elim⟩
end Go.Tv
end
section
namespace Go.Tv
open Go Go.Di Go.Proofs
section
variable {bC:bM} (tk:yQ bC) (tr:Sv bC) (tu:Su bC)
include tk
theorem aac:kF bC 8 R1:=rF tk (iP (gf tk) 7) (by decide) Tryz.func91 rfl v79 (acg tk)
theorem acr:kF bC 4 R3:=rF tk (iP (gf tk) 3) (by decide) Tryz.func97 rfl v53 (rF tk (aaE tk) (by decide) Tryz.func96 rfl v61 (rF tk (iP (aaD tk) 2) (by decide) Tryz.func80 rfl v63 (iP (aaD tk) 3)))
theorem acp:kF bC 4 R4:=mkO (iP (NC tk) 2) Tryz.func81 rfl ab6 (mkO (iP (NC tk) 2) Tryz.func81 rfl ab7 (ia (aaE tk)))
include tu in
theorem aco:kF bC 6 R5:=rF tk (iP (gf tk) 5) (by decide) Tryz.func49 rfl v25 (rF tk (iP (adb tk) 4) (by decide) Tryz.func48 rfl v26 (VR tu (rF tk (iP (VR tu (gf tk)) 5) (by decide) Tryz.func42 rfl v20 (KZ (iP (RH tk) 1) Tryz.func41 rfl v41 (rF tk (iP (gf tk) 5) (by decide) Tryz.func11 rfl v18 (aab tk))))))
include tr
theorem acs:kF bC 8 R2:=rF tk (iP (ace tk tr) 6) (by decide) Tryz.func95 rfl v80 (aac tk)
include tu
theorem acn:kF bC 9 R6:=rF tk (iP (acr tk) 4) (by decide) Tryz.func47 rfl EY (rF tk (acs tk tr) (by decide) Tryz.func46 rfl yG (rF tk (iP (acp tk) 4) (by decide) Tryz.func45 rfl zD (rF tk (aac tk) (by decide) Tryz.func44 rfl EZ (iP (aco tk tu) 3))))
end
end Go.Tv
end
