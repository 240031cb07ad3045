import Derived.Test.YtedcgbkilmlbhaaGreatPk09
section
namespace Go.Tv
open Go Go.Di Go.Proofs
set_option maxRecDepth 100000
abbrev pcS (f:List Int→List Int→Int→List Int→List Prop):uO := .ex (List Int) fun u => .ex (List Int) fun l => .ex Int fun w => .ex (List Int) fun ls => .ex (List Int) fun r => .ex Int fun z => .res (Uh u l w ls) (yd r z) (f u l w ls)
def D12:List TV→List TV→Dn
 | [.ptr 0 0,.val (.int .i64 c)],[.sl (.int .i64) _ .no,.val (.int .u64 _)]=>some ([3≤c,c≤8],pcS fun u l w ls=>[Ok u l w ls,(u.length:Int)≤c],[])
 | _,_=>none
theorem v12:VC T4 Tryz.f39 [some aO] [some bM,some (.int .u64)] D12:=by
 intro a cs p s j h hp
 unfold D12 at h
 split at h<;>cases h
 rename_i c r z
 obtain⟨h1,h2,-⟩:=hp
 refine wu (A:=(-1000:Int)≤3∧(3:Int)≤1000∧(-1000:Int)≤c∧c≤1003∧c≤5000∧∀ (a:Int) (a_1:List Int) (a_2:Int),3≤a→a≤c∨a=3→0≤a∧a≤100∧∀ (a_5 a_6:List Int) (a_7:Int),(↑a_5.length:Int)=a→uM a_5→0≤a∧a≤100∧∀ (a_10 a_11:List Int) (a_12:Int),(↑a_10.length:Int)=a→uM a_10→(2:Int)≤1000∧(-10000:Int)≤2∧∀ (a:Int) (a_13:List Int) (a_14:Int),0≤a→a≤2∨a=0→0<4∧4≤1000∧∀ (a_17:Int) (a_18:List Int) (a_19:Int),a_17∈[(0:Int),(0:Int),(1:Int),a]→∀ (a a_20:List Int) (a_21:Int),a≠[]→(∀ (x:Int),x∈a→0≤x∧x≤3)→List.Pairwise (fun(x1 x2:Int)=>x1<x2) a→∃ (a_25:List Int),∃ (a_26:List Int),∃ (a_27:Int),∃ (a_28:List Int),∃ (a_29:List Int),∃ (a_30:Int),a_5=a_25∧a_10=a_26∧a_17=a_27∧a=a_28∧a_20=a_29∧a_21=a_30∧Ok a_25 a_26 a_27 a_28∧(↑a_25.length:Int)≤c∧True) (by kernel_rfl) ?_
 simp only[bL,dF,cC,dR,fE,cE,and_true,true_and,eq_self]
 refine⟨by omega,by omega,by omega,by omega,by omega,fun n r1 z1 h3 h4=>⟨by omega,by omega,fun u r2 z2 h5 h6=>⟨by omega,by omega,fun l r3 z3 h7 h8=>⟨by omega,by omega,fun k r4 z4 h9 x6=>⟨by omega,by omega,fun w r5 z5 GQ ls r6 z6 XW h13 h14 => ?_⟩⟩⟩⟩⟩
 have Zg:0≤w∧w≤2:=by simp at GQ; omega
 exact⟨u,l,w,ls,r6,z6,rfl,rfl,rfl,rfl,rfl,rfl,⟨by omega,by omega,by omega,h6,h8,Zg.1,Zg.2,XW,h13,h14⟩,by omega⟩
def D77:List TV→Dn
 | [.agg [.sl (.int .i64) u .no,.sl (.int .i64) l .no,.val (.int .i64 w),.sl (.int .i64) ls .no]]=>some ([Sh u l ls],.res (bk (jG u l w ls)) [] [],
  [(3,.un 3),(19,.ex Nat fun i => .st { sl:=[(71,bk i)],dm:=[i≤ls.length,jZ ls 0=jZ ls i],m:=ls.length-i })])
 | _=>none
set_option maxHeartbeats 1000000 in
theorem v77:VI T4 Tryz.f89 [some bO] D77:=by
 intro a p s j h hp
 unfold D77 at h
 split at h<;>cases h
 rename_i u l w ls
 change List Int at u l ls
 obtain⟨h1,h2,h3⟩:=hp.1
 refine wu (A:=((0:Int)≤0∧0<(↑(2:Nat):Int))∧aG (decide ((↑u.length:Int)<3)) (7=jG u l w ls∧True) (aG (decide ((↑u.length:Int)<(↑u.length:Int))) (7=jG u l w ls∧True) (aG (decide ((↑u.length:Int)>8)) (6=jG u l w ls∧True) (aG (decide ((↑u.length:Int)>(↑u.length:Int))) (6=jG u l w ls∧True) (cE (1:Int)∧((0:Int)≤1∧1<(↑(2:Nat):Int))∧aG (decide ((↑l.length:Int)<3)) (7=jG u l w ls∧True) (aG (decide ((↑l.length:Int)<(↑u.length:Int))) (7=jG u l w ls∧True) (aG (decide ((↑l.length:Int)>8)) (6=jG u l w ls∧True) (aG (decide ((↑l.length:Int)>(↑u.length:Int))) (6=jG u l w ls∧True) (cE (2:Int)∧u.length≤1000∧aG (!u.all (nN (9:Int))) (1=jG u l w ls∧True) (l.length≤1000∧aG (!l.all (nN (9:Int))) (1=jG u l w ls∧True) (aG (decide (w<0)) (1=jG u l w ls∧True) (aG (decide (w>2)) (1=jG u l w ls∧True) (aG ((↑ls.length:Int)==0) (7=jG u l w ls∧True) ((∃ (a:Nat),0=(↑a:Int)∧a≤ls.length∧jZ ls 0=jZ ls a∧ls.length-a<1000000)∧∀ (a:Nat),a≤ls.length→jZ ls 0=jZ ls a→aG (decide ((↑a:Int)<(↑ls.length:Int))) ((0≤(↑a:Int)∧(↑a:Int)<(↑ls.length:Int))∧aG (decide (ls.getD a 0<0)) (8=jG u l w ls∧True) (aG (decide (ls.getD a 0>3)) (8=jG u l w ls∧True) (aG (decide ((↑a:Int)>0)) (cE ((↑a:Int)-1)∧(0≤(↑a:Int)-1∧(↑a:Int)-1<(↑ls.length:Int))∧aG (decide (ls.getD a 0≤ls.getD ((↑a:Int)-1).toNat (0:Int))) (5=jG u l w ls∧True) (cE ((↑a:Int)+1)∧∃ (a_3:Nat),ls=ls∧(↑ls.length:Int)=(↑ls.length:Int)∧(↑a:Int)+1=(↑a_3:Int)∧u=u∧l=l∧w=w∧ls=ls∧a_3≤ls.length∧jZ ls 0=jZ ls a_3∧ls.length-a_3<ls.length-a)) (cE ((↑a:Int)+1)∧∃ (a_3:Nat),ls=ls∧(↑ls.length:Int)=(↑ls.length:Int)∧(↑a:Int)+1=(↑a_3:Int)∧u=u∧l=l∧w=w∧ls=ls∧a_3≤ls.length∧jZ ls 0=jZ ls a_3∧ls.length-a_3<ls.length-a)))) (0=jG u l w ls∧True))))))))))))))) (by kernel_rfl) ?_
 simp only[bL,dF,cC,dR,fE,cE,and_true,true_and,eq_self]
 refine⟨by omega,fun a1 => ?_,fun a1=>⟨fun a2=>by omega,fun _=>⟨fun a3 => ?_,fun a3=>⟨fun _=>by omega,fun _=>⟨by omega,by omega,fun a4 => ?_,fun a4=>⟨fun a5 => ?_,fun a5=>⟨fun a6 => ?_,fun a6=>⟨fun a7 => ?_,fun a7=>⟨by omega,by omega,?_⟩⟩⟩⟩⟩⟩⟩⟩⟩
 ·rw[jG,if_pos (by omega)]
 ·rw[jG,if_neg (by omega),if_pos (by omega)]
 ·rw[jG,if_neg (by omega),if_neg (by omega),if_pos (by omega)]
 ·rw[jG,if_neg (by omega),if_neg (by omega),if_pos (by omega)]
 ·rw[jG,if_neg (by omega),if_neg (by omega),if_neg (by omega),if_pos (by omega)]
 ·rw[jG,if_neg (by omega),if_neg (by omega),if_neg (by omega),if_pos (by omega)]
 have e1:∀ (_:u.all (nN 9)=false∨l.all (nN 9)=false∨w<0∨2<w),1=jG u l w ls:=fun h=>by rw[jG,if_neg (by omega),if_neg (by omega),if_neg (by omega),if_neg (by omega),if_pos h]
 rw[gY]
 refine⟨fun b1=>⟨by omega,?_⟩,fun b1=>e1 (.inl b1)⟩
 rw[gY]
 refine⟨fun b2=>⟨fun b3=>e1 (.inr (.inr (.inl b3))),fun b3=>⟨fun b4=>e1 (.inr (.inr (.inr b4))),fun b4=>⟨fun b5 => ?_,fun b5 => ?_⟩⟩⟩,fun b2=>e1 (.inr (.inl b2))⟩
 ·rw[jG,if_neg (by omega),if_neg (by omega),if_neg (by omega),if_neg (by omega),if_neg (by rw[b1,b2]; simp; omega),if_pos (by omega)]
 have e:jG u l w ls=jZ ls 0:=MS (by omega) (by omega) (by omega) (by omega) (by rw[b1]; rfl) (by rw[b2]; rfl) (by omega) (by omega) (by omega)
 rw[e]
 refine⟨⟨0,rfl,by omega,rfl,by omega⟩,fun i k1 k2=>⟨fun k3=>⟨by omega,fun k4 => ?_,fun k4=>⟨fun k5 => ?_,fun k5=>⟨fun k6=>⟨by omega,by omega,fun k7 => ?_,fun k7=>⟨by omega,i+1,by omega,by omega,k2.trans (sX (by omega) (by omega) ?_),by omega⟩⟩,fun k6=>⟨by omega,i+1,by omega,by omega,k2.trans (sX (by omega) (by omega) (by omega)),by omega⟩⟩⟩⟩,fun k3 => ?_⟩⟩
 ·rw[k2,LD (by omega) (.inl k4)]
 ·rw[k2,LD (by omega) (.inr (by omega))]
 ·rw[k2,Qu (by omega) (by omega) ⟨by omega,by rw[show i-1=((i:Int)-1).toNat by omega]; exact k7⟩]
 ·rw[show i-1=((i:Int)-1).toNat by omega]; exact fun h=>k7 h.2
 ·rw[k2,Qv (by omega)]
def T5:gP:=(T4.uJ 39 fun a c=>dS (D12 a c)).cI 89 fun a=>dS (D77 a)
def D13:List TV→List TV→Dn
 | [.ptr 0 0,.agg [.sl (.int .i64) u .no,.sl (.int .i64) l .no,.val (.int .i64 w),.sl (.int .i64) ls .no]],[.sl (.int .i64) _ .no,.val (.int .u64 _)]=>some ([Ok u l w ls],pcS fun u1 l1 w1 ls1=>[Ok u1 l1 w1 ls1,u1=l.map (9-·)],
  [(5,.ex (List Int) fun u1 => .ex (List Int) fun l1 => .ex Int fun w1 => .ex (List Int) fun ls1 => .ex (List Int) fun r => .ex Int fun z => .ex Nat fun i => .st { sl:=[(6,bk i)],pl:=[(0,yd r z),(3,[.sl bO ((l.take i).map (9-·)) (.oE 4),.sl bO l1 .no,bk w1,.sl bO ls1 .no])],own:=[(3,1)],dm:=[i≤l.length,Ok u1 l1 w1 ls1,l1.length=l.length],m:=l.length-i })])
 | _,_=>none
theorem v13:VC T5 Tryz.f40 [some aO] [some bM,some (.int .u64)] D13:=by
 intro a cs p s j h hp
 unfold D13 at h
 split at h<;>cases h
 rename_i u l w ls r z
 have h1:=hp.1
 refine wu (A:=3≤(↑u.length:Int)∧(↑u.length:Int)≤8∧∀ (a a_1:List Int) (a_2:Int) (a_3 a_4:List Int) (a_5:Int),Ok a a_1 a_2 a_3→(↑a.length:Int)≤(↑u.length:Int)→0≤(↑u.length:Int)∧(↑u.length:Int)≤100∧∀ (a a_7:List Int) (a_8:Int),(↑a.length:Int)=(↑u.length:Int)→uM a→(∃ (a_11:List Int),∃ (a_12:List Int),∃ (a_13:Int),∃ (a_14:List Int),∃ (a_15:List Int),∃ (a_16:Int),∃ (a_17:Nat),0=(↑a_17:Int)∧a_7=a_15∧a_8=a_16∧[]=List.map (fun(x:bO.den)=>(9:bO.den)-x) (List.take a_17 l)∧a=a_12∧a_2=a_13∧a_3=a_14∧a_17≤l.length∧Ok a_11 a_12 a_13 a_14∧a_12.length=l.length∧l.length-a_17<1000000)∧∀ (a a_11:List Int) (a_12:Int) (a_13 a_14:List Int) (a_15:Int) (a_16:Nat),a_16≤l.length→Ok a a_11 a_12 a_13→a_11.length=l.length→aG (decide ((↑a_16:Int)<(↑l.length:Int))) ((0≤(↑a_16:Int)∧(↑a_16:Int)<(↑l.length:Int))∧cE ((9:Int)-l.getD a_16 0)∧(List.map (fun(x:bO.den)=>(9:bO.den)-x) (List.take a_16 l)).length+1≤1000000000∧cE ((↑a_16:Int)+1)∧∃ (a:List Int),∃ (a_18:List Int),∃ (a_19:Int),∃ (a_20:List Int),∃ (a_21:List Int),∃ (a_22:Int),∃ (a_23:Nat),(↑a_16:Int)+1=(↑a_23:Int)∧a_14=a_21∧a_15=a_22∧u=u∧l=l∧w=w∧ls=ls∧(0:Int)=0∧List.map (fun(x:bO.den)=>(9:bO.den)-x) (List.take a_16 l)++[(9:Int)-l.getD a_16 0]=List.map (fun(x:bO.den)=>(9:bO.den)-x) (List.take a_23 l)∧a_11=a_18∧a_12=a_19∧a_13=a_20∧a_23≤l.length∧Ok a a_18 a_19 a_20∧a_18.length=l.length∧l.length-a_23<l.length-a_16) (∃ (a:List Int),∃ (a_18:List Int),∃ (a_19:Int),∃ (a_20:List Int),∃ (a_21:List Int),∃ (a_22:Int),List.map (fun(x:bO.den)=>(9:bO.den)-x) (List.take a_16 l)=a∧a_11=a_18∧a_12=a_19∧a_13=a_20∧a_14=a_21∧a_15=a_22∧Ok a a_18 a_19 a_20∧a=List.map (fun(x:bO.den)=>(9:bO.den)-x) l∧True)) (by kernel_rfl) ?_
 simp only[bL,dF,cC,dR,fE,cE,and_true,true_and,eq_self]
 have:=h1.n3
 have:=h1.n8
 have:=h1.len
 refine⟨by omega,by omega,fun u1 l1 w1 ls1 r1 z1 h2 h3=>⟨by omega,by omega,fun o r2 z2 h4 h5=>⟨⟨o,o,w1,ls1,r2,z2,0,rfl,rfl,rfl,rfl,rfl,rfl,rfl,by omega,⟨by omega,by omega,rfl,h5,h5,h2.w0,h2.w2,h2.ne,h2.O6,h2.U3⟩,by omega,by omega⟩,fun u3 o w ls r3 z3 i h6 h7 h8=>⟨fun h9 => ?_,fun h9 => ?_⟩⟩⟩⟩
 ·have:=h1.hl _ (lE (l:=l) (i:=i) (by omega))
  exact⟨by omega,by omega,by simp; omega,by omega,u3,o,w,ls,r3,z3,i+1,by omega,rfl,rfl,Dw (f:=fun x=>9-x) (by omega),rfl,rfl,rfl,by omega,h7,h8,by omega⟩
 ·rw[show i=l.length by omega,fo]
  exact⟨_,o,w,ls,r3,z3,rfl,rfl,rfl,rfl,rfl,rfl,Ta h7 h8 h1.hl,rfl⟩
def D59:List TV→Dn
 | [.sl (.pair (.sl (.int .i64)) (.pair (.sl (.int .i64)) (.pair (.int .i64) (.pair (.sl (.int .i64)) .unit)))) l .no]=>some ([l.length≤1000,∀ p∈l,c9 p],.res (bk (jf l)) [] [],
  [(3,.ex Nat fun i => .st { sl:=[(8,bk i)],dm:=[i≤l.length,jf (l.take i)=0],m:=l.length-i })])
 | _=>none
theorem v59:VI T5 Tryz.f94 [some bO] D59:=by
 intro a p s j h hp
 unfold D59 at h
 split at h<;>cases h
 rename_i l
 obtain⟨h1,h2,-⟩:=hp
 refine wu (A:=(∃ (a:Nat),0=(↑a:Int)∧a≤l.length∧jf (List.take a l)=0∧l.length-a<1000000)∧∀ (a:Nat),a≤l.length→jf (List.take a l)=0→aG (decide ((↑a:Int)<(↑l.length:Int))) ((0≤(↑a:Int)∧(↑a:Int)<(↑l.length:Int))∧Sh (l.getD a ([],[],0,[],())).fst (l.getD a ([],[],0,[],())).snd.fst (l.getD a ([],[],0,[],())).snd.snd.snd.fst∧aG (jG (l.getD a ([],[],0,[],())).fst (l.getD a ([],[],0,[],())).snd.fst (l.getD a ([],[],0,[],())).snd.snd.fst (l.getD a ([],[],0,[],())).snd.snd.snd.fst !=0) (jG (l.getD a ([],[],0,[],())).fst (l.getD a ([],[],0,[],())).snd.fst (l.getD a ([],[],0,[],())).snd.snd.fst (l.getD a ([],[],0,[],())).snd.snd.snd.fst=jf l∧True) (cE ((↑a:Int)+1)∧∃ (a_3:Nat),l=l∧(↑l.length:Int)=(↑l.length:Int)∧(↑a:Int)+1=(↑a_3:Int)∧a_3≤l.length∧jf (List.take a_3 l)=0∧l.length-a_3<l.length-a)) (0=jf l∧True)) (by kernel_rfl) ?_
 simp only[bL,dF,cC,dR,fE,cE,and_true,true_and,eq_self]
 refine⟨⟨0,rfl,by omega,rfl,by omega⟩,fun i k1 k2=>⟨fun k3=>⟨by omega,cV (P:=c9) (by omega) h2,fun k4=>⟨by omega,i+1,by omega,by omega,TZ (by omega) k2 k4,by omega⟩,fun k4=>(Xp (by omega) k2 k4).symm⟩,fun k3 => ?_⟩⟩
 rw[show i=l.length by omega,fo] at k2
 rw[k2]
def T6:gP:=(T5.uJ 40 fun a c=>dS (D13 a c)).cI 94 fun a=>dS (D59 a)
def T7:gP:=T6
def T8:gP:=T7
section
variable {bG:bV} (tk:uK bG)
include tk
theorem Zo:jT bG 5 T5:=kz tk (U9 tk) (by decide) Tryz.func89 rfl v77 (M9 (U9 tk) Tryz.func39 rfl v12 (dX (U9 tk)))
theorem U8:jT bG 6 T6:=kz tk (Zo tk) (by decide) Tryz.func94 rfl v59 (M9 (Zo tk) Tryz.func40 rfl v13 (dX (Zo tk)))
end
end Go.Tv
end
section
namespace Go.Tv
open Go Go.Di Go.Proofs
end Go.Tv
end
section
namespace Go.Tv
open Go Go.Di Go.Proofs
set_option maxRecDepth 100000
theorem L9:∀ (l:List Int) (st:Int×Int×Int),(l.foldl M8 st).2.2=st.2.2+l.length
  | [],st=>by simp
  | x::l,st=>by rw[List.foldl_cons,L9 l]; simp only[M8,List.length_cons]; omega
theorem Wc (l:List Int):(oD l).2.2=l.length:=by rw[oD,L9]; simp
theorem Ga (la ub:List Int) (s:Int):∀ i,(fP la ub s i).length≤i
  | 0=>ak 0
  | i+1=>by
    have:=Ga la ub s i
    rw[fP]; split
    · rw[b9,List.length_singleton]; omega
    · omega
def aap:List TV→Dn
  | [.val (.int .i64 x),.val (.int .i64 lo),.val (.int .i64 hi)]=>some ([],.res (kC (decide (lo≤x∧x≤hi))) [] [],[])
  | _=>none
theorem v107:VI T0 Tryz.f100 [some .bool] aap:=by
  refine eX fun a => ?_
  unfold aap
  split
  rotate_left
  · trivial
  rename_i x lo hi
  intro hp
  refine qx (A:=aG (decide (lo≤x)) (decide (x≤hi)=decide (lo≤x∧x≤hi)∧True) (false=decide (lo≤x∧x≤hi)∧True)) (by kernel_rfl) ?_
  rw[gY]
  refine⟨fun h=>⟨?_,trivial⟩,fun h=>⟨?_,trivial⟩⟩
  · simp only[bJ] at h; rw[oV]; omega
  · simp only[decide_eq_false_iff_not] at h; symm; rw[decide_eq_false_iff_not]; omega
def G1:gP:=T0.cI 100 fun a=>dS (aap a)
def aaq:List TV→Dn
  | [.sl (.int .i64) l .no]=>some ([l.length≤1000],.ex Int fun e => .res (bk e) [] [e=if l.all (nN 9)=true then 0 else 1],[(3,.ex Nat fun i => .st { sl:=[(3,bk i)],dm:=[i≤l.length,(l.take i).all (nN 9)=true],m:=l.length-i })])
  | _=>none
theorem ad8:VI G1 Tryz.f93 [some bO] aaq:=by
  refine eX fun a => ?_
  unfold aaq
  split
  rotate_left
  · trivial
  rename_i l
  intro hp
  refine qx (A:=(∃ (a:Nat),0=(↑a:Int)∧a≤l.length∧(List.take a l).all (nN (9:Int))=true∧l.length-a<1000000)∧∀ (a:Nat),a≤l.length→(List.take a l).all (nN (9:Int))=true→aG (decide ((↑a:Int)<(↑l.length:Int))) ((0≤(↑a:Int)∧(↑a:Int)<(↑l.length:Int))∧aG (!decide (0≤l.getD a 0∧l.getD a 0≤9)) (∃ (a:Int),1=a∧(a=if l.all (nN (9:Int))=true then (0:Int) else (1:Int))∧True) (cE ((↑a:Int)+1)∧∃ (a_1:Nat),l=l∧(↑a:Int)+1=(↑a_1:Int)∧a_1≤l.length∧(List.take a_1 l).all (nN (9:Int))=true∧l.length-a_1<l.length-a)) (∃ (a:Int),0=a∧(a=if l.all (nN (9:Int))=true then (0:Int) else (1:Int))∧True)) (by kernel_rfl) ?_
  have h1:=hp.1
  simp only[bL,dR,fE,cE,and_true,true_and,eq_self]
  refine⟨⟨0,rfl,by omega,rfl,by omega⟩,fun i h2 h3=>⟨fun h4=>⟨by omega,fun h5=>⟨by omega,i+1,by omega,by omega,M4 (by omega) h3 (gB h5),by omega⟩,fun h5=>⟨1,rfl,?_⟩⟩,fun h4=>⟨0,rfl,?_⟩⟩⟩
  · rw[Mx (i:=i) (by omega) (gC h5)]; rfl
  · rw[show i=l.length by omega,fo] at h3
    rw[if_pos h3]
def G2:gP:=G1.cI 93 fun a=>dS (aaq a)
def D91:List TV→Dn
  | [.agg [.sl (.int .i64) au .no,.sl (.int .i64) al .no,.val (.int .i64 aw),.sl (.int .i64) aq .no]]=>some ([Sh au al aq],.res (bk (jG au al aw aq)) [] [],[(29,.ex Nat fun i => .st { sl:=[(5,bk i)],dm:=[i≤aq.length,jZ aq 0=jZ aq i],m:=aq.length-i })])
  | _=>none
def v91.q1 (p0:Nat) (p1 p2:List Int) (p3:Int) (p4:List Int):Prop:=cE ((↑p0:Int)+1)∧∃ (a:Nat),(↑p0:Int)+1=(↑a:Int)∧p1=p1∧p2=p2∧p3=p3∧p4=p4∧a≤p4.length∧jZ p4 0=jZ p4 a∧p4.length-a<p4.length-p0
theorem v91:VI G2 Tryz.f92 [some bO] D91:=by
  refine eX fun a => ?_
  unfold D91
  split
  rotate_left
  · trivial
  rename_i u l w ls
  intro hp
  change List Int at u l ls
  refine qx (A:=aG (decide ((↑u.length:Int)<3)) (7=jG u l w ls∧True) (aG (decide ((↑u.length:Int)>8)) (6=jG u l w ls∧True) (aG (decide ((↑l.length:Int)<(↑u.length:Int))) (7=jG u l w ls∧True) (aG (decide ((↑l.length:Int)>(↑u.length:Int))) (6=jG u l w ls∧True) (u.length≤1000∧∀ (a:Int),(a=if u.all (nN (9:Int))=true then (0:Int) else (1:Int))→aG (a !=0) (a=jG u l w ls∧True) (l.length≤1000∧∀ (a:Int),(a=if l.all (nN (9:Int))=true then (0:Int) else (1:Int))→aG (a !=0) (a=jG u l w ls∧True) (aG (!decide (0≤w∧w≤2)) (1=jG u l w ls∧True) (aG ((↑ls.length:Int)==0) (7=jG u l w ls∧True) ((∃ (a:Nat),0=(↑a:Int)∧a≤ls.length∧jZ ls 0=jZ ls a∧ls.length-a<1000000)∧∀ (a:Nat),a≤ls.length→jZ ls 0=jZ ls a→aG (decide ((↑a:Int)<(↑ls.length:Int))) ((0≤(↑a:Int)∧(↑a:Int)<(↑ls.length:Int))∧aG (!decide (0≤ls.getD a 0∧ls.getD a 0≤3)) (8=jG u l w ls∧True) (aG (decide ((↑a:Int)>0)) ((0≤(↑a:Int)∧(↑a:Int)<(↑ls.length:Int))∧cE ((↑a:Int)-1)∧(0≤(↑a:Int)-1∧(↑a:Int)-1<(↑ls.length:Int))∧aG (decide (ls.getD a 0≤ls.getD ((↑a:Int)-1).toNat (0:Int))) (5=jG u l w ls∧True) (v91.q1 a u l w ls)) (v91.q1 a u l w ls))) (0=jG u l w ls∧True)))))))))) (by kernel_rfl) ?_
  unfold v91.q1
  obtain⟨h1,h2,h3⟩:=hp.1
  simp only[bL,dF,cC,dR,fE,cE,and_true,true_and,eq_self]
  refine⟨fun a1 => ?_,fun a1=>⟨fun a2 => ?_,fun a2=>⟨fun a3 => ?_,fun a3=>⟨fun a4 => ?_,fun a4=>⟨by omega,fun e he => ?_⟩⟩⟩⟩⟩
  · rw[jG,if_pos (by omega)]
  · rw[jG,if_neg (by omega),if_pos (by omega)]
  · rw[jG,if_neg (by omega),if_neg (by omega),if_pos (by omega)]
  · rw[jG,if_neg (by omega),if_neg (by omega),if_neg (by omega),if_pos (by omega)]
  have e1:∀ (_:u.all (nN 9)=false∨l.all (nN 9)=false∨w<0∨2<w),jG u l w ls=1:=fun h=>by rw[jG,if_neg (by omega),if_neg (by omega),if_neg (by omega),if_neg (by omega),if_pos h]
  cases b1:u.all (nN 9) with
  | false=>rw[b1] at he; subst he; exact⟨fun h=>absurd h (by decide),fun _=>(e1 (.inl b1)).symm⟩
  | true =>
  rw[b1] at he; subst he
  refine⟨fun _=>⟨by omega,fun e he => ?_⟩,fun h=>absurd rfl h⟩
  cases b2:l.all (nN 9) with
  | false=>rw[b2] at he; subst he; exact⟨fun h=>absurd h (by decide),fun _=>(e1 (.inr (.inl b2))).symm⟩
  | true =>
  rw[b2] at he; subst he
  refine⟨fun _=>⟨fun b5=>⟨fun b6 => ?_,fun b6 => ?_⟩,fun b5=>(e1 (by omega)).symm⟩,fun h=>absurd rfl h⟩
  · rw[jG,if_neg (by omega),if_neg (by omega),if_neg (by omega),if_neg (by omega),if_neg (by rw[b1,b2]; simp; omega),if_pos (by omega)]
  have e:jG u l w ls=jZ ls 0:=MS (by omega) (by omega) (by omega) (by omega) (by rw[b1]; rfl) (by rw[b2]; rfl) (by omega) (by omega) (by omega)
  rw[e]
  refine⟨⟨0,rfl,by omega,rfl,by omega⟩,fun i k1 k2=>⟨fun k3=>⟨by omega,fun k4=>⟨fun k5=>⟨by omega,by omega,by omega,fun k6 => ?_,fun k6=>⟨by omega,i+1,by omega,by omega,k2.trans (sX (by omega) (by omega) ?_),by omega⟩⟩,fun k5=>⟨by omega,i+1,by omega,by omega,k2.trans (sX (by omega) (by omega) (by omega)),by omega⟩⟩,fun k4 => ?_⟩,fun k3 => ?_⟩⟩
  · rw[k2,Qu (by omega) (by omega) ⟨by omega,by rw[show i-1=((i:Int)-1).toNat by omega]; exact k6⟩]
  · rw[show i-1=((i:Int)-1).toNat by omega]; exact fun h=>k6 h.2
  · rw[k2,LD (by omega) (by omega)]
  · rw[k2,Qv (by omega)]
def G3:gP:=G2.cI 92 fun a=>dS (D91 a)
theorem OY (p q:PD):jf [p,q]=if Bi p≠0 then Bi p else Bi q:=by
  simp only[jf]
  split
  · rfl
  · split
    · rfl
    · rename_i h; exact(Decidable.not_not.1 h).symm
def D61:List TV→Dn
  | [.agg [.sl (.int .i64) au .no,.sl (.int .i64) al .no,.val (.int .i64 aw),.sl (.int .i64) aq .no],.agg [.sl (.int .i64) bu .no,.sl (.int .i64) bl .no,.val (.int .i64 bw),.sl (.int .i64) bq .no]]=>some ([Sh au al aq,Sh bu bl bq],.ex Int fun e => .res (bk e) [] [e=jf [pd au al aw aq,pd bu bl bw bq]],[])
  | _=>none
theorem v61:VI G3 Tryz.f96 [some bO] D61:=by
  refine eX fun a => ?_
  unfold D61
  split
  rotate_left
  · trivial
  rename_i u l w ls u2 l2 w2 C1
  intro hp
  refine qx (A:=Sh u l ls∧aG (jG u l w ls !=0) (∃ (a:Int),jG u l w ls=a∧a=jf [pd u l w ls,pd u2 l2 w2 C1]∧True) (Sh u2 l2 C1∧∃ (a:Int),jG u2 l2 w2 C1=a∧a=jf [pd u l w ls,pd u2 l2 w2 C1]∧True)) (by kernel_rfl) ?_
  obtain⟨h1,h2,-⟩:=hp
  rw[OY]
  simp only[cC]
  refine⟨h1,fun e=>⟨h2,_,rfl,(if_neg (fun h=>h e)).symm,trivial⟩,fun e=>⟨_,rfl,(if_pos e).symm,trivial⟩⟩
def uI (la ub:List Int) (s:Int) (i k:Nat):List Int:=if 0≤(i:Int)+s∧(i:Int)+s<k then fP la ub s i++[ub.getD i 0+la.getD ((i:Int)+s).toNat 0] else fP la ub s i
def uP (te:List TV) (i:Nat) (k:Nat→LA):LA :=
  match te.getD i .unk with
  | .val (.int .i64 n)=>k n.toNat
  | _ => .un 0
def D62:List TV→Dn
  | [.agg [.sl (.int .i64) au .no,.sl (.int .i64) al .no,.val (.int .i64 aw),.sl (.int .i64) aq .no],.agg [.sl (.int .i64) bu .no,.sl (.int .i64) bl .no,.val (.int .i64 bw),.sl (.int .i64) bq .no],.val (.int .i64 s)]=>some ([al.length≤1000,bu.length≤1000,uM al,uM bu],.res (.sl bO (fP al bu s bu.length) .no) [] [],
    [(4,.ex Nat fun i => .st { sl:=[(7,.sl bO (fP al bu s i) (.oE 2)),(8,bk i)],own:=[(3,1)],dm:=[i≤bu.length],m:=bu.length-i }),
     (9,.dep fun te _=>uP te 8 fun i => .ex Nat fun k => .st { sl:=[(7,.sl bO (uI al bu s i k) (.oE 2)),(9,bk k)],dm:=[k≤al.length],m:=al.length-k })])
  | _=>none
def v62.q1 (p0 p1:Nat) (p2 p3 p4:List bO.den) (p5:Int) (p6 p7:List bO.den) (p8:Int) (p9:List bO.den) (C0:Nat):Prop:=(↑p0:Int)=(↑p0:Int)∧(↑p1:Int)+1=(↑C0:Int)∧(↑p0:Int)=(↑p0:Int)∧p2=p2∧(↑p2.length:Int)=(↑p2.length:Int)∧true=true∧p3=p3∧p4=p4∧p5=p5∧p6=p6∧p2=p2∧p7=p7∧p8=p8∧p9=p9∧C0≤p4.length∧p4.length-C0<p4.length-p1
theorem v62:VI T0 Tryz.f117 [some bM] D62:=by
  refine eX fun a => ?_
  unfold D62
  split
  rotate_left
  · trivial
  rename_i u l w ls u2 l2 w2 C1 s
  intro hp
  refine qx (A:=(∃ (a:Nat),[]=fP l u2 s a∧0=(↑a:Int)∧a≤u2.length∧u2.length-a<1000000)∧∀ (a:Nat),a≤u2.length→aG (decide ((↑a:Int)<(↑u2.length:Int))) ((∃ (a_1:Nat),fP l u2 s a=uI l u2 s a a_1∧0=(↑a_1:Int)∧a_1≤l.length∧l.length-a_1<1000000)∧∀ (a_1:Nat),a_1≤l.length→aG (decide ((↑a_1:Int)<(↑l.length:Int))) (cE ((↑a_1:Int)-(↑a:Int))∧aG ((↑a_1:Int)-(↑a:Int)==s) ((0≤(↑a_1:Int)∧(↑a_1:Int)<(↑l.length:Int))∧(0≤(↑a:Int)∧(↑a:Int)<(↑u2.length:Int))∧cE (l.getD a_1 0+u2.getD a 0)∧(uI l u2 s a a_1).length+1≤1000000000∧cE ((↑a_1:Int)+1)∧∃ (a_2:Nat),s=s∧lM bO.den∧uI l u2 s a a_1++[l.getD a_1 0+u2.getD a 0]=uI l u2 s a a_2∧v62.q1 a a_1 u2 u l w ls l2 w2 C1 a_2) (cE ((↑a_1:Int)+1)∧∃ (a_2:Nat),s=s∧lM bO.den∧uI l u2 s a a_1=uI l u2 s a a_2∧v62.q1 a a_1 u2 u l w ls l2 w2 C1 a_2)) (cE ((↑a:Int)+1)∧∃ (a_2:Nat),s=s∧lM bO.den∧uI l u2 s a a_1=fP l u2 s a_2∧(↑a:Int)+1=(↑a_2:Int)∧u=u∧l=l∧w=w∧ls=ls∧u2=u2∧l2=l2∧w2=w2∧C1=C1∧a_2≤u2.length∧u2.length-a_2<u2.length-a)) (fP l u2 s a=fP l u2 s u2.length∧True)) (by kernel_rfl) ?_
  unfold v62.q1
  obtain⟨h1,h2,h3,h4,-⟩:=hp
  change List Int at l u2
  simp only[bL,dF,cC,dR,fE,cE,and_true,true_and,eq_self]
  refine⟨⟨0,rfl,by omega,by omega,by omega⟩,fun i k1=>⟨fun k2=>⟨⟨0,by rw[uI,if_neg (by omega)],by omega,by omega,by omega⟩,fun k k3=>⟨fun k4=>⟨by omega,fun k5=>⟨by omega,by omega,?_,?_,by omega,k+1,?_,by omega,by omega,by omega⟩,fun k5=>⟨by omega,k+1,?_,by omega,by omega,by omega⟩⟩,fun k4=>⟨by omega,i+1,?_,by omega,by omega,by omega⟩⟩⟩,fun k2 => ?_⟩⟩
  · have:=yo h3 (i:=k) (by omega)
    have:=yo h4 (i:=i) (by omega)
    omega
  · have:=Ga l u2 s i
    rw[uI,if_neg (by omega)]; omega
  · rw[uI,if_neg (by omega),uI,if_pos (by omega),show ((i:Int)+s).toNat=k by omega,Int.add_comm]
  · by_cases h:0≤(i:Int)+s∧(i:Int)+s<k
    · rw[uI,if_pos h,uI,if_pos (by omega)]
    · rw[uI,if_neg h,uI,if_neg (by omega)]
  · rw[show k=l.length by omega]; rfl
  · rw[show i=u2.length by omega]
def D64:List TV→Dn
  | [.sl (.int .i64) l .no]=>some ([0<l.length,l.length≤1000],.res (.gd [bk (oD l).1,bk (oD l).2.1]) [] [],
    [(4,.ex Nat fun i => .ex Int fun lo => .ex Int fun hi => .st { sl:=[(4,bk lo),(5,bk hi),(6,bk i)],dm:=[i≤l.length,0<i,oD (l.take i)=(lo,hi,(i:Int))],m:=l.length-i })])
  | _=>none
theorem v64:VI T0 Tryz.f118 [some bO,some bO] D64:=by
  refine eX fun a => ?_
  unfold D64
  split
  rotate_left
  · trivial
  rename_i l
  intro hp
  refine qx (A:=((0:Int)≤0∧0<(↑l.length:Int))∧((0:Int)≤0∧0<(↑l.length:Int))∧(∃ (a:Nat),∃ (a_1:Int),∃ (a_2:Int),l.getD 0 0=a_1∧l.getD 0 0=a_2∧1=(↑a:Int)∧a≤l.length∧0<a∧oD (List.take a l)=(a_1,a_2,(↑a:Int))∧l.length-a<1000000)∧∀ (a:Nat) (a_1 a_2:Int),a≤l.length→0<a→oD (List.take a l)=(a_1,a_2,(↑a:Int))→aG (decide ((↑a:Int)<(↑l.length:Int))) ((0≤(↑a:Int)∧(↑a:Int)<(↑l.length:Int))∧(0≤(↑a:Int)∧(↑a:Int)<(↑l.length:Int))∧cE ((↑a:Int)+1)∧∃ (a_3:Nat),∃ (a_4:Int),∃ (a_5:Int),l=l∧(0:Int)=0∧(0:Int)=0∧(if l.getD a 0<a_1 then l.getD a 0 else a_1)=a_4∧(if l.getD a 0>a_2 then l.getD a 0 else a_2)=a_5∧(↑a:Int)+1=(↑a_3:Int)∧a_3≤l.length∧0<a_3∧oD (List.take a_3 l)=(a_4,a_5,(↑a_3:Int))∧l.length-a_3<l.length-a) (a_1=(oD l).fst∧a_2=(oD l).snd.fst∧True)) (by kernel_rfl) ?_
  obtain⟨h1,h2,-⟩:=hp
  change List Int at l
  simp only[bL,dF,cC,dR,fE,cE,and_true,true_and,eq_self]
  refine⟨by omega,by omega,⟨1,_,_,rfl,rfl,rfl,by omega,by omega,?_,by omega⟩,fun i lo hi k1 k2 k3=>⟨fun k4=>⟨by omega,by omega,by omega,i+1,_,_,rfl,rfl,by omega,by omega,by omega,?_,by omega⟩,fun k4 => ?_⟩⟩
  · obtain⟨x,m,rfl⟩:∃ x m,l=x::m:=by cases l with
      | nil=>exact absurd h1 (by decide)
      | cons x m=>exact⟨x,m,rfl⟩
    rw[List.take_one]; simp[oD,M8]
  · rw[take_one (by omega),Ed k3 (by omega)]; simp
  · rw[show i=l.length by omega,fo] at k3
    rw[k3]; exact⟨rfl,rfl⟩
def G4:gP:=(T0.cI 117 fun a=>dS (D62 a)).cI 118 fun a=>dS (D64 a)
def D63:List TV→Dn
  | [.agg [.sl (.int .i64) au .no,.sl (.int .i64) al .no,.val (.int .i64 aw),.sl (.int .i64) aq .no],.agg [.sl (.int .i64) bu .no,.sl (.int .i64) bl .no,.val (.int .i64 bw),.sl (.int .i64) bq .no],.val (.int .i64 s)]=>some ([al.length≤1000,bu.length≤1000,uM al,uM bu,0≤aw,aw≤2,0≤bw,bw≤2],.res (kC (ia al bu (aw+bw) s)) [] [],[])
  | _=>none
theorem v63:VI G4 Tryz.f80 [some .bool] D63:=by
  refine eX fun a => ?_
  unfold D63
  split
  rotate_left
  · trivial
  rename_i u l w ls u2 l2 w2 C1 s
  intro hp
  refine qx (A:=l.length≤1000∧u2.length≤1000∧uM l∧uM u2∧aG (decide ((↑(fP l u2 s u2.length).length:Int)<3)) (false=ia l u2 (w+w2) s∧True) (0<(fP l u2 s u2.length).length∧(fP l u2 s u2.length).length≤1000∧cE ((oD (fP l u2 s u2.length)).snd.fst-(oD (fP l u2 s u2.length)).fst)∧cE (w+w2)∧decide ((oD (fP l u2 s u2.length)).snd.fst-(oD (fP l u2 s u2.length)).fst≤w+w2)=ia l u2 (w+w2) s∧True)) (by kernel_rfl) ?_
  obtain⟨h1,h2,h3,h4,w1,w2',w3,w4,-⟩:=hp
  have e:=Wc (fP l u2 s u2.length)
  have b:=Rf s h3 h4
  unfold stA at b
  have:=Ga l u2 s u2.length
  simp only[bL,dF,cC,dR,fE,cE,and_true,true_and,eq_self]
  refine⟨by omega,by omega,h3,h4,fun k => ?_,fun k=>⟨by omega,by omega,by omega,by omega,?_⟩⟩
  · rw[ia,eq_comm,decide_eq_false_iff_not]; omega
  · rw[ia,oV]; omega
def G5:gP:=(((G3.cI 96 fun a=>dS (D61 a)).cI 117 fun a=>dS (D62 a)).cI 80 fun a=>dS (D63 a)).cI 118 fun a=>dS (D64 a)
def GI (la ub:List Int) (w:Int) (k:Nat):List Int:=((List.range k).map fun(j:Nat)=>(j:Int)-8).filter (ia la ub w)
theorem Wi {la ub:List Int} {w:Int} {k:Nat} (h:ia la ub w ((k:Int)-8)=true):GI la ub w k++[(k:Int)-8]=GI la ub w (k+1):=by
  simp[GI,jM,h]
theorem aaP {la ub:List Int} {w:Int} {k:Nat} (h:ia la ub w ((k:Int)-8)=false):GI la ub w k=GI la ub w (k+1):=by
  simp[GI,jM,h]
theorem aaQ (la ub:List Int) (w:Int) (k:Nat):(GI la ub w k).length≤k:=by
  refine aS (qR _ _) ?_
  simp
theorem Iw {la ub:List Int} {w s:Int} (h:s ≤ -(ub.length:Int)∨(la.length:Int)≤s):ia la ub w s=false:=by
  rw[ia,yU h,decide_eq_false_iff_not]
  exact fun h=>absurd h.1 (by decide)
theorem aaO {la ub:List Int} {w:Int} (h1:la.length≤8) (h2:ub.length≤8):GI la ub w 17=pJ la ub w (ub.length+la.length+1):=by
  have e:(17:Nat)=(8-ub.length)+((ub.length+la.length+1)+(8-la.length)):=by omega
  have e0:∀ (l:List Int),(∀ s∈l,ia la ub w s=false)→l.filter (ia la ub w)=[]:=fun l h=>List.filter_eq_nil_iff.2 fun s hs=>by rw[h s hs]; decide
  have f1:((List.range (8-ub.length)).map fun(j:Nat)=>(j:Int)-8).filter (ia la ub w)=[]:=e0 _ fun s hs=>by
    simp only[cR,List.mem_range] at hs
    obtain⟨j,hj,rfl⟩:=hs
    exact Iw (.inl (by omega))
  have f2:((List.range (8-la.length)).map fun(j:Nat)=>(((8-ub.length)+((ub.length+la.length+1)+j):Nat):Int)-8).filter (ia la ub w)=[]:=e0 _ fun s hs=>by
    simp only[cR,List.mem_range] at hs
    obtain⟨j,hj,rfl⟩:=hs
    exact Iw (.inr (by omega))
  rw[GI,e,List.range_add,List.range_add]
  simp only[gm,oZ,List.map_map,Function.comp_def]
  rw[f1,f2,List.nil_append,ff,pJ]
  congr 1
  refine List.map_congr_left fun j _ => ?_
  omega
def D66:List TV→Dn
  | [.agg [.sl (.int .i64) au .no,.sl (.int .i64) al .no,.val (.int .i64 aw),.sl (.int .i64) aq .no],.agg [.sl (.int .i64) bu .no,.sl (.int .i64) bl .no,.val (.int .i64 bw),.sl (.int .i64) bq .no]]=>some ([Ok au al aw aq,Ok bu bl bw bq],.res (.sl bO (pJ al bu (aw+bw) (bu.length+al.length+1)) .no) [] [],
    [(4,.ex Nat fun k => .st { sl:=[(5,.sl bO (GI al bu (aw+bw) k) (.oE 2)),(6,bk ((k:Int)-8))],own:=[(3,1)],dm:=[k≤17],m:=17-k })])
  | _=>none
theorem v66:VI G5 Tryz.f109 [some bM] D66:=by
  refine eX fun a => ?_
  unfold D66
  split
  rotate_left
  · trivial
  rename_i u l w ls u2 l2 w2 C1
  intro hp
  refine qx (A:=(∃ (a:Nat),[]=GI l u2 (w+w2) a∧(-8:Int)=(↑a:Int)-8∧a≤17∧17-a<1000000)∧∀ (a:Nat),a≤17→aG (decide ((↑a:Int)-8≤8)) (l.length≤1000∧u2.length≤1000∧uM l∧uM u2∧0≤w∧w≤2∧0≤w2∧w2≤2∧aG (ia l u2 (w+w2) ((↑a:Int)-8)) ((GI l u2 (w+w2) a).length+1≤1000000000∧cE ((↑a:Int)-8+1)∧∃ (a_1:Nat),lM bO.den∧GI l u2 (w+w2) a++[(↑a:Int)-8]=GI l u2 (w+w2) a_1∧(↑a:Int)-8+1=(↑a_1:Int)-8∧u=u∧l=l∧w=w∧ls=ls∧u2=u2∧l2=l2∧w2=w2∧C1=C1∧a_1≤17∧17-a_1<17-a) (cE ((↑a:Int)-8+1)∧∃ (a_1:Nat),lM bO.den∧GI l u2 (w+w2) a=GI l u2 (w+w2) a_1∧(↑a:Int)-8+1=(↑a_1:Int)-8∧u=u∧l=l∧w=w∧ls=ls∧u2=u2∧l2=l2∧w2=w2∧C1=C1∧a_1≤17∧17-a_1<17-a)) (GI l u2 (w+w2) a=pJ l u2 (w+w2) (u2.length+l.length+1)∧True)) (by kernel_rfl) ?_
  obtain⟨h1,h2,-⟩:=hp
  have n1:=h1.num
  have n2:=h2.num
  simp only[bL,dF,cC,dR,fE,cE,and_true,true_and,eq_self]
  refine⟨⟨0,rfl,by omega,by omega,by omega⟩,fun k k1=>⟨fun k2=>⟨by omega,by omega,h1.hl,h2.hu,by omega,by omega,by omega,by omega,?_⟩,fun k2 => ?_⟩⟩
  · have:=aaQ l u2 (w+w2) k
    rw[gY]
    refine⟨fun f=>⟨by omega,by omega,k+1,Wi f,by omega,by omega,by omega⟩,fun f=>⟨by omega,k+1,aaP f,by omega,by omega,by omega⟩⟩
  · rw[show k=17 by omega,aaO (by omega) (by omega)]
def G6:gP:=G5.cI 109 fun a=>dS (D66 a)
def Jq (p:PD):Bool:=decide (p.1.length≤20∧p.2.1.length≤20∧p.2.2.2.1.length≤20)
theorem Wl {l:List PD} {i:Nat} {d:PD} (h:i<l.length) (h1:(l.take i).all Jq=true) (h2:Jq (l.getD i d)=true):(l.take (i+1)).all Jq=true:=by
  have e:l.getD i d=l[i]:=by simp[aN,h]
  rw[e] at h2
  rw[← List.take_append_getElem h,mA,h1,List.all_cons,h2]; rfl
theorem JV {l:List PD} {i:Nat} {d:PD} (h:i<l.length) (h2:Jq (l.getD i d)=false):l.all Jq=false:=by
  have e:l.getD i d=l[i]:=by simp[aN,h]
  rw[e] at h2
  refine Bool.eq_false_iff.2 fun h1 => ?_
  rw[bt.1 h1 _ (mB h)] at h2
  cases h2
def D18:List TV→Dn
  | [.sl (.pair (.sl (.int .i64)) (.pair (.sl (.int .i64)) (.pair (.int .i64) (.pair (.sl (.int .i64)) .unit)))) l .no]=>some ([],.ex Bool fun b => .res (kC b) [] [b=(decide (l.length≤20)&&l.all Jq)],[(3,.ex Nat fun i => .st { sl:=[(3,bk i)],dm:=[i≤l.length,i≤20,(l.take i).all Jq=true],m:=20-i })])
  | _=>none
def v18.q1 (p0:List (aO).den) (p1:Bool):Prop:=∃ (a:Bool),p1=a∧a=(decide (p0.length≤20)&&p0.all Jq)∧True
theorem v18:VI T0 Tryz.f11 [some .bool] D18:=by
  refine eX fun a => ?_
  unfold D18
  split
  rotate_left
  · trivial
  rename_i l
  intro hp
  refine qx (A:=(∃ (a:Nat),0=(↑a:Int)∧a≤l.length∧a≤20∧(List.take a l).all Jq=true∧20-a<1000000)∧∀ (a:Nat),a≤l.length→a≤20→(List.take a l).all Jq=true→aG (decide ((↑a:Int)<(↑l.length:Int))) (aG (decide ((↑a:Int)<20)) ((0≤(↑a:Int)∧(↑a:Int)<(↑l.length:Int))∧aG (decide ((↑(List.length (l.getD a ([],[],0,[],())).fst):Int)>20)) (v18.q1 l false) ((0≤(↑a:Int)∧(↑a:Int)<(↑l.length:Int))∧aG (decide ((↑(List.length (l.getD a ([],[],0,[],())).snd.fst):Int)>20)) (v18.q1 l false) ((0≤(↑a:Int)∧(↑a:Int)<(↑l.length:Int))∧aG (decide ((↑(List.length (l.getD a ([],[],0,[],())).snd.snd.snd.fst):Int)>20)) (v18.q1 l false) (cE ((↑a:Int)+1)∧∃ (a_1:Nat),l=l∧(↑a:Int)+1=(↑a_1:Int)∧a_1≤l.length∧a_1≤20∧(List.take a_1 l).all Jq=true∧20-a_1<20-a)))) (v18.q1 l (decide ((↑l.length:Int)≤20)))) (v18.q1 l (decide ((↑l.length:Int)≤20)))) (by kernel_rfl) ?_
  unfold v18.q1
  change List PD at l
  simp only[bL,dF,cC,dR,fE,cE,and_true,true_and,eq_self]
  refine⟨⟨0,rfl,by omega,by omega,rfl,by omega⟩,fun i k1 k2 k3=>⟨fun k4=>⟨fun k5=>⟨by omega,fun k6=>⟨_,rfl,?_⟩,fun k6=>⟨by omega,fun k7=>⟨_,rfl,?_⟩,fun k7=>⟨by omega,fun k8=>⟨_,rfl,?_⟩,fun k8=>⟨by omega,i+1,by omega,by omega,by omega,Wl (d:=([],[],0,[],())) (by omega) k3 (gB ⟨by omega,by omega,by omega⟩),by omega⟩⟩⟩⟩,fun k5=>⟨_,rfl,?_⟩⟩,fun k4=>⟨_,rfl,?_⟩⟩⟩
  · rw[JV (i:=i) (d:=([],[],0,[],())) (by omega) (gC fun h=>by omega),kY]
  · rw[JV (i:=i) (d:=([],[],0,[],())) (by omega) (gC fun h=>by omega),kY]
  · rw[JV (i:=i) (d:=([],[],0,[],())) (by omega) (gC fun h=>by omega),kY]
  · rw[gC (by omega),gC (by omega)]; rfl
  · rw[show i=l.length by omega,fo] at k3
    rw[k3,Bool.and_true,oV]; omega
def S58:List TV→Sp
  | [.sl (.int .i64) l .no]=>some ([l.length≤1000],.res (.sl bO l .no) [] [])
  | _=>none
def T0d:gP:=T0.cI 43 S58
def D20:List TV→Dn
  | [.agg [.sl (.int .i64) au .no,.sl (.int .i64) al .no,.val (.int .i64 aw),.sl (.int .i64) aq .no]]=>some ([Sh au al aq],.res (Uh au al aw aq) [] [],[])
  | _=>none
theorem v20:VI T0d Tryz.f42 [some aO] D20:=by
  refine eX fun a => ?_
  unfold D20
  split
  rotate_left
  · trivial
  rename_i u l w ls
  intro hp
  refine qx (A:=u.length≤1000∧l.length≤1000∧ls.length≤1000∧u=u∧l=l∧w=w∧ls=ls∧True) (by kernel_rfl) ?_
  obtain⟨h1,h2,h3⟩:=hp.1
  exact⟨h1,h2,h3,rfl,rfl,rfl,rfl,trivial⟩
def D25:List TV→Dn
  | [.sl (.int .i64) l .no,.sl (.int .i64) m .no]=>some ([l.length≤1000,m.length≤1000],.res (kC (decide (l=m))) [] [],[(4,.ex Nat fun i => .ex Bool fun b => .st { sl:=[(5,kC b),(6,bk i)],dm:=[i≤l.length,b=decide (l.length=m.length∧l.take i=m.take i)],m:=l.length-i })])
  | _=>none
theorem v25:VI T0 Tryz.f49 [some .bool] D25:=by
  refine eX fun a => ?_
  unfold D25
  split
  rotate_left
  · trivial
  rename_i l m
  intro hp
  refine qx (A:=(∃ (a:Nat),∃ (a_1:Bool),((↑l.length:Int)==(↑m.length:Int))=a_1∧0=(↑a:Int)∧a≤l.length∧a_1=decide (l.length=m.length∧List.take a l=List.take a m)∧l.length-a<1000000)∧∀ (a:Nat) (a_1:Bool),a≤l.length→a_1=decide (l.length=m.length∧List.take a l=List.take a m)→aG a_1 (aG (decide ((↑a:Int)<(↑l.length:Int))) ((0≤(↑a:Int)∧(↑a:Int)<(↑l.length:Int))∧(0≤(↑a:Int)∧(↑a:Int)<(↑m.length:Int))∧cE ((↑a:Int)+1)∧∃ (a_2:Nat),∃ (a_3:Bool),l=l∧m=m∧false=false∧(l.getD a 0==m.getD a 0)=a_3∧(↑a:Int)+1=(↑a_2:Int)∧a_2≤l.length∧a_3=decide (l.length=m.length∧List.take a_2 l=List.take a_2 m)∧l.length-a_2<l.length-a) (a_1=decide (l=m)∧True)) (a_1=decide (l=m)∧True)) (by kernel_rfl) ?_
  obtain⟨h1,h2,-⟩:=hp
  simp only[bL,dF,cE,and_true,true_and,eq_self]
  refine⟨⟨0,_,rfl,rfl,by omega,?_,by omega⟩,fun i b h3 h4 => ?_⟩
  · rw[Bool.eq_iff_iff]; simp; omega
  rw[gY]
  subst h4
  simp only[bJ,decide_eq_false_iff_not]
  refine⟨fun h5=>⟨fun h6=>⟨by omega,by omega,by omega,i+1,_,rfl,by omega,by omega,?_,by omega⟩,fun h6 => ?_⟩,fun h5 => ?_⟩
  · rw[Bool.eq_iff_iff,bJ,take_one (by omega),take_one (by omega),ek]
    refine⟨fun h=>⟨h5.1,by rw[h5.2,h]⟩,fun h => ?_⟩
    have:=List.append_inj_right' h.2 rfl
    simpa using this
  · rw[oV]
    have e1:=h5.2
    rw[iE (by omega),iE (by omega)] at e1
    exact⟨fun _=>e1,fun h=>h5⟩
  · rw[oV]
    exact⟨fun h=>absurd h h5,fun h=>by subst h; exact absurd ⟨rfl,rfl⟩ h5⟩
def G7:gP:=T0.cI 49 fun a=>dS (D25 a)
def D26:List TV→Dn
  | [.agg [.sl (.int .i64) au .no,.sl (.int .i64) al .no,.val (.int .i64 aw),.sl (.int .i64) aq .no],.agg [.sl (.int .i64) bu .no,.sl (.int .i64) bl .no,.val (.int .i64 bw),.sl (.int .i64) bq .no]]=>some ([Sh au al aq,Sh bu bl bq],.res (kC (decide (au=bu∧al=bl∧aw=bw∧aq=bq))) [] [],[])
  | _=>none
theorem v26:VI G7 Tryz.f48 [some .bool] D26:=by
  refine eX fun a => ?_
  unfold D26
  split
  rotate_left
  · trivial
  rename_i u l w ls u2 l2 w2 C1
  intro hp
  refine qx (A:=u.length≤1000∧u2.length≤1000∧aG (decide (u=u2)) (l.length≤1000∧l2.length≤1000∧aG (decide (l=l2)) (aG (w==w2) (ls.length≤1000∧C1.length≤1000∧decide (ls=C1)=decide (u=u2∧l=l2∧w=w2∧ls=C1)∧True) (false=decide (u=u2∧l=l2∧w=w2∧ls=C1)∧True)) (false=decide (u=u2∧l=l2∧w=w2∧ls=C1)∧True)) (false=decide (u=u2∧l=l2∧w=w2∧ls=C1)∧True)) (by kernel_rfl) ?_
  obtain⟨⟨a1,a2,a3⟩,⟨b1,b2,b3⟩,-⟩:=hp
  simp only[bL,dF,and_true]
  refine⟨a1,b1,fun h1=>⟨a2,b2,fun h2=>⟨fun h3=>⟨a3,b3,?_⟩,fun h3 => ?_⟩,fun h2 => ?_⟩,fun h1 => ?_⟩
  · rw[oV]; exact⟨fun h=>⟨h1,h2,h3,h⟩,fun h=>h.2.2.2⟩
  · rw[gC fun h=>h3 h.2.2.1]
  · rw[gC fun h=>h2 h.2.1]
  · rw[gC fun h=>h1 h.1]
theorem aaR {p:PD} (h:Jq p=true):c9 p:=by
  have:=of_decide_eq_true h
  exact⟨by omega,by omega,by omega⟩
structure Qg (bG:bV):Prop where
  dup:∀ (l:List Int) d,l.length≤1000→RT dK [] (.sl bO l .no) d→∃ r,bG 43 [d]=some r∧r.pure=true∧RT dK [] (.sl bO l .no) r
section
variable {bG:bV} (tk:uK bG) (tu:Qg bG)
theorem Fi {k:Nat} {T:gP} (h:jT bG k T):∀ m,jT bG (m+k) T
  | 0=>by rwa [gy]
  | m+1=>by have:=dX (Fi h m); rwa [Nat.add_right_comm] at this
theorem QS {T:gP} {k:Nat} (tu:Qg bG) (hT:jT bG k T):jT bG k (T.cI 43 S58):=Lz hT fun n a p s hs hp=>by
  unfold S58 at hs
  split at hs
  · rename_i l
    cases hs
    intro cZ hd
    obtain⟨d,_,rfl,h1,h2⟩:=aj hd
    rw[aU h2]
    obtain⟨r,k1,k2,k3⟩:=tu.dup l d hp.1 h1
    exact⟨r,_,by simp only[Ah,kS,k1,k2,if_true],k2,k3,rfl,rfl,trivial⟩
  · cases hs
include tk
theorem acu:jT bG 1 G1:=kz tk (eO tk) (by decide) Tryz.func100 rfl v107 (dX (eO tk))
theorem acs:jT bG 2 G2:=kz tk (acu tk) (by decide) Tryz.func93 rfl ad8 (dX (acu tk))
theorem Vw:jT bG 3 G3:=kz tk (acs tk) (by decide) Tryz.func92 rfl v91 (dX (acs tk))
theorem aff:jT bG 1 G4:=kz tk (eO tk) (by decide) Tryz.func118 rfl v64 (kz tk (eO tk) (by decide) Tryz.func117 rfl v62 (dX (eO tk)))
theorem afe:jT bG 4 G5:=kz tk (Fi (eO tk) 3) (by decide) Tryz.func118 rfl v64 (kz tk (Fi (aff tk) 2) (by decide) Tryz.func80 rfl v63 (kz tk (Fi (eO tk) 3) (by decide) Tryz.func117 rfl v62 (kz tk (Vw tk) (by decide) Tryz.func96 rfl v61 (dX (Vw tk)))))
theorem afd:jT bG 1 G7:=kz tk (eO tk) (by decide) Tryz.func49 rfl v25 (dX (eO tk))
end
end Go.Tv
end
section
namespace Go.Tv
open Go Go.Di Go.Proofs
def aaB (la ub:List Int) (nb k:Nat):List Int:=((List.range k).map fun(j:Nat)=>(j:Int)-(nb:Int)).filterMap fun s=>if 3≤(stA la ub s).2.2 then some ((stA la ub s).2.1-(stA la ub s).1) else none
def aaz (ua la:List Int) (x:Int) (ub lb:List Int) (y:Int):List Int:=aaB (bS x ua la) (bR y ub lb) ub.length (ub.length+ua.length+1)
def aaA (ua la ub lb ys:List Int) (x:Int):List Int:=ys.flatMap (aaz ua la x ub lb)
def afr (ua la lsa ub lb lsb:List Int):List Int:=lsa.flatMap (aaA ua la ub lb lsb)
theorem F3 {n:Int} {u l:List Int} (h:l.length=u.length):(bR n u l).length=u.length∧(bS n u l).length=u.length:=by
 unfold bR bS
 constructor<;>(repeat' split)<;>simp[h]
theorem gI {l:List Int} {f:Int→List Int} {c:Nat} (h:∀ x,(f x).length≤c):(l.flatMap f).length≤l.length*c:=by
 induction l with
 | nil=>simp
 | cons x l ih =>
  rw[fM,b9,List.length_cons,kX]
  have:=h x
  omega
end Go.Tv
end
section
namespace Go.Tv
open Go Go.Di Go.Proofs
set_option maxRecDepth 100000
structure JO (bG:bV):Prop where
 rev:∀ (l:List Int) d,l.length≤1000000→RT dK [] (.sl bO l .no) d→∃ r,bG 133 [d]=some r∧r.pure=true∧RT dK [] (.sl bO l.reverse .no) r
def Z9:List TV→Sp
 | [.sl (.int .i64) l .no]=>some ([l.length≤1000000],.res (.sl bO l.reverse .no) [] [])
 | _=>none
def D79:List TV→Dn
 | [.sl (.int .i64) l .no]=>some ([l≠[],l.length≤1000],.res (.sl bO l .no) [] [],[])
 | _=>none
theorem v79:VI T0 Tryz.f91 [some bM] D79:=by
 intro a p s j h hp
 unfold D79 at h
 split at h<;>cases h
 rename_i l
 change List Int at l
 obtain⟨h1,h2,-⟩:=hp
 refine wu (A:=l≠[]∧0+l.length≤1000000000∧l=l∧True) (by kernel_rfl) ?_
 exact⟨h1,by omega,rfl,trivial⟩
def D98:List TV→Dn
 | [.sl (.int .i64) l .no,.val (.int .i64 x)]=>some ([l.length≤1000],.res (bk (sJ l x)) [] [],[(3,.ex Nat fun i => .st { sl:=[(8,bk i)],dm:=[i≤l.length,x ∉ l.take i],m:=l.length-i })])
 | _=>none
theorem v98:VI T0 Tryz.f122 [some bO] D98:=by
 intro a p s j h hp
 unfold D98 at h
 split at h<;>cases h
 rename_i l x
 change List Int at l
 have h1:=hp.1
 refine wu (A:=(∃ (a:Nat),0=(↑a:Int)∧a≤l.length∧¬x∈List.take a l∧l.length-a<1000000)∧∀ (a:Nat),a≤l.length→¬x∈List.take a l→aG (decide ((↑a:Int)<(↑l.length:Int))) ((0≤(↑a:Int)∧(↑a:Int)<(↑l.length:Int))∧aG (x==l.getD a 0) ((↑a:Int)=sJ l x∧True) (cE ((↑a:Int)+1)∧∃ (a_3:Nat),l=l∧x=x∧(↑l.length:Int)=(↑l.length:Int)∧(↑a:Int)+1=(↑a_3:Int)∧a_3≤l.length∧¬x∈List.take a_3 l∧l.length-a_3<l.length-a)) ((-1:Int)=sJ l x∧True)) (by kernel_rfl) ?_
 simp only[bL,dF,cC,dR,fE,cE,and_true,true_and,eq_self]
 refine⟨⟨0,by omega,by omega,by simp,by omega⟩,fun i h2 h3=>⟨fun h4=>⟨by omega,fun h5 => ?_,fun h5=>⟨by omega,i+1,by omega,by omega,?_,by omega⟩⟩,fun h4 => ?_⟩⟩
 ·rw[OP (by omega) h3 h5.symm]
 ·rw[take_one (by omega)]; simp only[ja,bN,not_or]; exact⟨h3,h5⟩
 ·rw[show i=l.length by omega,fo] at h3; rw[sJ,if_neg h3]
def D99:List TV→Dn
 | [.agg [.sl (.int .i64) u .no,.sl (.int .i64) l .no]]=>some ([],.res (edV u l) [] [],[])
 | _=>none
theorem v99:VI T0 Tryz.f123 [some (.pair bM (.pair bM .unit))] D99:=by
 intro a p s j h hp
 unfold D99 at h
 split at h<;>cases h
 rename_i u l
 refine wu (A:=u=u∧l=l∧True) (by kernel_rfl) ?_
 exact⟨rfl,rfl,trivial⟩
def T0r:gP:=T0.cI 133 Z9
def aat:List TV→Dn
 | [.agg [.sl (.int .i64) u .no,.sl (.int .i64) l .no]]=>some ([u.length≤1000,l.length≤1000],.res (edV l.reverse u.reverse) [] [],[])
 | _=>none
theorem aea:VI T0r Tryz.f124 [some (.pair bM (.pair bM .unit))] aat:=by
 intro a p s j h hp
 unfold aat at h
 split at h<;>cases h
 rename_i u l
 obtain⟨h1,h2,-⟩:=hp
 refine wu (A:=l.length≤1000000∧u.length≤1000000∧l.reverse=l.reverse∧u.reverse=u.reverse∧True) (by kernel_rfl) ?_
 exact⟨by omega,by omega,rfl,rfl,trivial⟩
def aas:List TV→Dn
 | [.agg [.sl (.int .i64) u .no,.sl (.int .i64) l .no]]=>some ([u.length≤1000,l.length≤1000],.res (edV u.reverse l.reverse) [] [],[])
 | _=>none
theorem ad9:VI T0r Tryz.f125 [some (.pair bM (.pair bM .unit))] aas:=by
 intro a p s j h hp
 unfold aas at h
 split at h<;>cases h
 rename_i u l
 obtain⟨h1,h2,-⟩:=hp
 refine wu (A:=u.length≤1000000∧l.length≤1000000∧u.reverse=u.reverse∧l.reverse=l.reverse∧True) (by kernel_rfl) ?_
 exact⟨by omega,by omega,rfl,rfl,trivial⟩
def aar:List TV→Dn
 | [.agg [.sl (.int .i64) u .no,.sl (.int .i64) l .no]]=>some ([],.res (edV l u) [] [],[])
 | _=>none
theorem abQ:VI T0 Tryz.f126 [some (.pair bM (.pair bM .unit))] aar:=by
 intro a p s j h hp
 unfold aar at h
 split at h<;>cases h
 rename_i u l
 refine wu (A:=l=l∧u=u∧True) (by kernel_rfl) ?_
 exact⟨rfl,rfl,trivial⟩
def U1:gP:=(((((T0r.cI 91 fun a=>dS (D79 a)).cI 122 fun a=>dS (D98 a)).cI 123 fun a=>dS (D99 a)).cI 124 fun a=>dS (aat a)).cI 125 fun a=>dS (aas a)).cI 126 fun a=>dS (aar a)
def D80:List TV→Dn
 | [.sl (.int .i64) l .no,.val (.int .i64 x)]=>some ([l.length≤1000],.res (kC (decide (x∈l))) [] [],[])
 | _=>none
theorem v80:VI U1 Tryz.f95 [some .bool] D80:=by
 intro a p s j h hp
 unfold D80 at h
 split at h<;>cases h
 rename_i l x
 change List Int at l
 have h1:=hp.1
 refine wu (A:=l.length≤1000∧decide (sJ l x≥0)=decide (x∈l)∧True) (by kernel_rfl) ?_
 refine⟨h1,?_,trivial⟩
 rw[oV,sJ]
 split<;>simp_all
def D83:List TV→Dn
 | [.val (.int .i64 n),.agg [.sl (.int .i64) u .no,.sl (.int .i64) l .no]]=>some ([u.length≤1000,l.length≤1000,0≤n,n≤3],.res (edV (bR n u l) (bS n u l)) [] [],[])
 | _=>none
theorem v83:VI U1 Tryz.f98 [some (.pair bM (.pair bM .unit))] D83:=by
 intro a p s j h hp
 unfold D83 at h
 split at h<;>cases h
 rename_i n u l
 obtain⟨h1,h2,h3,h4,-⟩:=hp
 refine wu (A:=aG (decide (n=0)) (u=bR n u l∧l=bS n u l∧True) (aG (decide (n=1)) (u.length≤1000∧l.length≤1000∧l.reverse=bR n u l∧u.reverse=bS n u l∧True) (aG (decide (n=2)) (u.length≤1000∧l.length≤1000∧u.reverse=bR n u l∧l.reverse=bS n u l∧True) (aG (decide (n=3)) (l=bR n u l∧u=bS n u l∧True) False)))) (by kernel_rfl) ?_
 have e:n=0∨n=1∨n=2∨n=3:=by omega
 rcases e with rfl | rfl | rfl | rfl
 ·exact⟨rfl,rfl,trivial⟩
 ·exact⟨h1,h2,rfl,rfl,trivial⟩
 ·exact⟨h1,h2,rfl,rfl,trivial⟩
 ·exact⟨rfl,rfl,trivial⟩
def U2:gP:=(U1.cI 95 fun a=>dS (D80 a)).cI 98 fun a=>dS (D83 a)
abbrev wkV (u l:List Int) (w:Int) (ls:List Int):TV := .agg [.sl bO u .no,.sl bO l .no,bk w,.sl bO ls .no,.sl bO u .no,.sl bO l .no,.sl bO l.reverse .no,.sl bO u.reverse .no,.sl bO u.reverse .no,.sl bO l.reverse .no,.sl bO l .no,.sl bO u .no]
def D50:List TV→Dn
 | [.agg [.sl (.int .i64) u .no,.sl (.int .i64) l .no,.val (.int .i64 w),.sl (.int .i64) ls .no]]=>some ([u.length≤1000,l.length≤1000],.res (wkV u l w ls) [] [],[(4,.un 5)])
 | _=>none
theorem v50:VI U2 Tryz.f61 [none] D50:=by
 refine eX fun a => ?_
 unfold D50
 split
 rotate_left
 ·trivial
 rename_i u l w ls
 intro hp
 refine qx (A:=u.length≤1000∧l.length≤1000∧(0:Int)≤0∧(0:Int)≤3∧True∧cE (1:Int)∧u.length≤1000∧l.length≤1000∧(0:Int)≤1∧(1:Int)≤3∧True∧cE (2:Int)∧u.length≤1000∧l.length≤1000∧(0:Int)≤2∧(2:Int)≤3∧True∧cE (3:Int)∧u.length≤1000∧l.length≤1000∧(0:Int)≤3∧(3:Int)≤3∧True∧cE (4:Int)∧u=u∧l=l∧w=w∧ls=ls∧bR (0:Int) u l=u∧bS (0:Int) u l=l∧bR (1:Int) u l=l.reverse∧bS (1:Int) u l=u.reverse∧bR (2:Int) u l=u.reverse∧bS (2:Int) u l=l.reverse∧bR (3:Int) u l=l∧bS (3:Int) u l=u∧True) (by kernel_rfl) ?_
 obtain⟨h1,h2,-⟩:=hp
 simp only[cE]
 repeat' (first | exact h1 | exact h2 | omega | rfl | trivial | apply And.intro)
section
variable {bG:bV} (tk:uK bG) (tr:JO bG)
theorem fJ {k:Nat} {T:gP} (h:jT bG k T):∀ m,jT bG (m+k) T
 | 0=>by rwa [gy]
 | m+1=>by have:=dX (fJ h m); rwa [Nat.add_right_comm] at this
theorem Kj {T:gP} {k:Nat} (tr:JO bG) (hT:jT bG k T):jT bG k (T.cI 133 Z9):=Lz hT fun n a p s hs hp=>by
 unfold Z9 at hs
 split at hs
 ·rename_i l
  cases hs
  intro cZ hd
  obtain⟨d,_,rfl,h1,h2⟩:=aj hd
  rw[aU h2]
  obtain⟨r,k1,k2,k3⟩:=tr.rev l d hp.1 h1
  exact⟨r,_,by simp only[Ah,kS,k1,k2,if_true],k2,k3,rfl,rfl,trivial⟩
 ·cases hs
include tk tr
theorem Zm:jT bG 1 U1:=kz tk (eO tk) (by decide) Tryz.func126 rfl abQ (kz tk (Kj tr (eO tk)) (by decide) Tryz.func125 rfl ad9 (kz tk (Kj tr (eO tk)) (by decide) Tryz.func124 rfl aea (kz tk (eO tk) (by decide) Tryz.func123 rfl v99 (kz tk (eO tk) (by decide) Tryz.func122 rfl v98 (kz tk (eO tk) (by decide) Tryz.func91 rfl v79 (dX (Kj tr (eO tk))))))))
theorem PU:jT bG 2 U2:=kz tk (Zm tk tr) (by decide) Tryz.func98 rfl v83 (kz tk (Zm tk tr) (by decide) Tryz.func95 rfl v80 (dX (Zm tk tr)))
def W8:gP:=((T8.cI 91 fun a=>dS (D79 a)).cI 95 fun a=>dS (D80 a)).cI 61 fun a=>dS (D50 a)
end
end Go.Tv
end
section
namespace Go.Tv
open Go Go.Di Go.Proofs
def jX (n:Int) (q:List Int):List Int:=q.map fun x=>fH x n
def oL (l:List Int):List Int:=l.mergeSort fun x y=>decide (x≤y)
theorem four {x:Int} (h:0≤x∧x≤3):x=0∨x=1∨x=2∨x=3:=by omega
theorem aau {x n:Int} (hx:0≤x∧x≤3) (hn:0≤n∧n≤3):(0≤fH x n∧fH x n≤3)∧fH (fH x n) n=x:=by
 rcases four hx with rfl | rfl | rfl | rfl<;>rcases four hn with rfl | rfl | rfl | rfl<;>decide
theorem Eo {l:List Int} (h:l.Pairwise (· < ·)):l.Nodup:=h.imp fun h=>by omega
theorem Im {n x:Int} {q:List Int}:x∈fT n q 4↔(0≤x∧x≤3)∧fH x n∈q:=by
 simp only[fT,List.mem_filter,cR,List.mem_range,bJ]
 constructor
 ·rintro⟨⟨k,hk,rfl⟩,h⟩
  exact⟨by simp only[Int.ofNat_eq_natCast]; omega,h⟩
 ·rintro⟨h1,h2⟩
  exact⟨⟨x.toNat,by omega,by simp only[Int.ofNat_eq_natCast]; omega⟩,h2⟩
end Go.Tv
end
