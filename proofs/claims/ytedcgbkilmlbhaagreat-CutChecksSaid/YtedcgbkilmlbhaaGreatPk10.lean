import Derived.Test.YtedcgbkilmlbhaaGreatPk09
section
namespace Go.Tv
open Go Go.Di Go.Proofs
set_option maxRecDepth 100000
set_option maxHeartbeats 1000000
abbrev Em (v:Int→TV) (f:Int→List Prop):qX := .ex Int fun k => .ex (List Int) fun r => .ex Int fun z => .res (v k) (tg r z) (f k)
def D81:List TV→List TV→Dn
 | [.ptr 0 0],[.sl (.int .i64) _ .no,.val (.int .u64 z)]=>some ([],Em (fun k => .val (.int .u64 k)) fun k=>[0≤k,k<4294967296],[(2,.ex Int fun k => .ex (List Int) fun r => .st { sl:=[(3,.val (.int .u64 k))],pl:=[(0,tg r z)] })])
 | _,_=>none
theorem v81:VC T0 Tryz.f58 [some (.int .u64)] [some bZ,some (.int .u64)] D81:=by
 intro a cs p s j h hp
 unfold D81 at h
 split at h<;>cases h
 rename_i r z
 refine sY (A:=aI (decide ((↑r.length:Int)>(0:Int))) (((0:Int)≤(0:Int)∧(0:Int)<(↑r.length:Int))∧((0:Int)≤(1:Int)∧(1:Int)≤(↑r.length:Int))∧∃ (a:Int),∃ (a_1:List Int),(0:Int)=(0:Int)∧IntKind.u64.wrap (r.getD (0:Nat) (0:Int))=a∧List.drop (1:Nat) r=a_1∧z=z∧True) (∃ (a:Int),∃ (a_1:List Int),(0:Int)=(0:Int)∧(0:Int)=a∧r=a_1∧z=z∧True)∧∀ (a:Int) (a_1:List Int),∃ (a_2:Int),∃ (a_3:List Int),∃ (a_4:Int),(IntKind.u64.wrap (IntKind.u64.wrap (↑(BitVec.ofInt (64:Nat) (IntKind.u64.wrap (↑(BitVec.ofInt (64:Nat) (IntKind.u64.wrap (IntKind.u64.wrap (IntKind.u64.wrap (z+a)+(6364136223846793005:Int))*(15074714826142052245:Int))) ^^^ BitVec.ofInt (64:Nat) ((IntKind.u64.wrap (IntKind.u64.wrap (IntKind.u64.wrap (z+a)+(6364136223846793005:Int))*(15074714826142052245:Int))).fdiv (536870912:Int))).toNat:Int)) ^^^ BitVec.ofInt (64:Nat) ((IntKind.u64.wrap (↑(BitVec.ofInt (64:Nat) (IntKind.u64.wrap (IntKind.u64.wrap (IntKind.u64.wrap (z+a)+(6364136223846793005:Int))*(15074714826142052245:Int))) ^^^ BitVec.ofInt (64:Nat) ((IntKind.u64.wrap (IntKind.u64.wrap (IntKind.u64.wrap (z+a)+(6364136223846793005:Int))*(15074714826142052245:Int))).fdiv (536870912:Int))).toNat:Int)).fdiv (8589934592:Int))).toNat:Int)*(18397679294719823053:Int))).fdiv (4294967296:Int)=a_2∧a_1=a_3∧IntKind.u64.wrap (↑(BitVec.ofInt (64:Nat) (IntKind.u64.wrap (IntKind.u64.wrap (IntKind.u64.wrap (z+a)+(6364136223846793005:Int))*(15074714826142052245:Int))) ^^^ BitVec.ofInt (64:Nat) ((IntKind.u64.wrap (IntKind.u64.wrap (IntKind.u64.wrap (z+a)+(6364136223846793005:Int))*(15074714826142052245:Int))).fdiv (536870912:Int))).toNat:Int)=a_4∧(0:Int)≤a_2∧a_2<(4294967296:Int)∧True) (by kernel_rfl) ?_
 simp only[bJ,dm,cE,cS,eR,dK,and_true,true_and,eq_self]
 refine⟨⟨fun h=>⟨by omega,by omega,_,_,rfl,rfl⟩,fun h=>⟨_,_,rfl,rfl⟩⟩,fun k r1=>⟨_,_,_,rfl,rfl,rfl,(UA rfl).1,(UA rfl).2⟩⟩
def D11:List TV→Dn
 | [.sl (.int .i64) l .no]=>some ([],.res .unk (tg l 1) [],[])
 | _=>none
theorem v11:VN T0 Tryz.f13 [some bZ,some (.int .u64)] D11:=by
 intro a p s j h hp
 unfold D11 at h
 split at h<;>cases h
 rename_i l
 refine sY (A:=l=l∧(1:Int)=(1:Int)∧True) (by kernel_rfl) ?_
 exact⟨rfl,rfl,trivial⟩
def D60:List TV→Dn
 | [.agg [.sl (.int .i64) ua .no,.sl (.int .i64) la .no],.agg [.sl (.int .i64) ub .no,.sl (.int .i64) lb .no],.val (.int .i64 s)]=>some ([la.length≤1000,ub.length≤1000,sV la,sV ub],.res (.ep [bt (stA la ub s).1,bt (stA la ub s).2.1,bt (stA la ub s).2.2]) [] [],
  [(6,.ex Nat fun i => .ex Int fun lo => .ex Int fun hi => .ex Int fun m => .st { sl:=[(6,bt lo),(7,bt hi),(8,bt m),(29,bt i)],dn:=[i≤ub.length,0≤m,m≤i,s4 (gl la ub s i)=(lo,hi,m)],m:=ub.length-i })])
 | _=>none
theorem v60:VI T0 Tryz.f78 [some bW,some bW,some bW] D60:=by
 intro a p s j h hp
 unfold D60 at h
 split at h<;>cases h
 rename_i ua la ub lb s
 obtain⟨h1,h2,h5,h6,-⟩:=hp
 refine sY (A:=dK (-(↑ub.length:Int))∧aI (decide (s ≤ -(↑ub.length:Int))) ((0:Int)=(stA la ub s).fst∧(0:Int)=(stA la ub s).snd.fst∧(0:Int)=(stA la ub s).snd.snd∧True) (aI (decide (s≥(↑la.length:Int))) ((0:Int)=(stA la ub s).fst∧(0:Int)=(stA la ub s).snd.fst∧(0:Int)=(stA la ub s).snd.snd∧True) ((∃ (a:Nat),∃ (a_1:Int),∃ (a_2:Int),∃ (a_3:Int),(0:Int)=a_1∧(0:Int)=a_2∧(0:Int)=a_3∧(0:Int)=(↑a:Int)∧a≤ub.length∧(0:Int)≤a_3∧a_3≤(↑a:Int)∧s4 (gl la ub s a)=(a_1,a_2,a_3)∧ub.length-a<(1000000:Nat))∧∀ (a:Nat) (a_1 a_2 a_3:Int),a≤ub.length→(0:Int)≤a_3→a_3≤(↑a:Int)→s4 (gl la ub s a)=(a_1,a_2,a_3)→aI (decide ((↑a:Int)<(↑ub.length:Int))) (((0:Int)≤(↑a:Int)∧(↑a:Int)<(↑ub.length:Int))∧dK ((↑a:Int)+s)∧aI (decide ((↑a:Int)+s<(0:Int))) (dK ((↑a:Int)+(1:Int))∧∃ (a_8:Nat),∃ (a_9:Int),∃ (a_10:Int),∃ (a_11:Int),s=s∧a_1=a_9∧a_2=a_10∧a_3=a_11∧ub=ub∧(↑ub.length:Int)=(↑ub.length:Int)∧(↑a:Int)+(1:Int)=(↑a_8:Int)∧ua=ua∧la=la∧ub=ub∧lb=lb∧a_8≤ub.length∧(0:Int)≤a_11∧a_11≤(↑a_8:Int)∧s4 (gl la ub s a_8)=(a_9,a_10,a_11)∧ub.length-a_8<ub.length-a) (aI (decide ((↑a:Int)+s≥(↑la.length:Int))) (dK ((↑a:Int)+(1:Int))∧∃ (a_8:Nat),∃ (a_9:Int),∃ (a_10:Int),∃ (a_11:Int),s=s∧a_1=a_9∧a_2=a_10∧a_3=a_11∧ub=ub∧(↑ub.length:Int)=(↑ub.length:Int)∧(↑a:Int)+(1:Int)=(↑a_8:Int)∧ua=ua∧la=la∧ub=ub∧lb=lb∧a_8≤ub.length∧(0:Int)≤a_11∧a_11≤(↑a_8:Int)∧s4 (gl la ub s a_8)=(a_9,a_10,a_11)∧ub.length-a_8<ub.length-a) (((0:Int)≤(↑a:Int)+s∧(↑a:Int)+s<(↑la.length:Int))∧dK (ub.getD a (0:Int)+la.getD ((↑a:Int)+s).toNat (0:Int))∧aI (a_3==(0:Int)) (dK (a_3+(1:Int))∧dK ((↑a:Int)+(1:Int))∧∃ (a_8:Nat),∃ (a_9:Int),∃ (a_10:Int),∃ (a_11:Int),s=s∧(if ub.getD a (0:Int)+la.getD ((↑a:Int)+s).toNat (0:Int)<ub.getD a (0:Int)+la.getD ((↑a:Int)+s).toNat (0:Int) then ub.getD a (0:Int)+la.getD ((↑a:Int)+s).toNat (0:Int) else ub.getD a (0:Int)+la.getD ((↑a:Int)+s).toNat (0:Int))=a_9∧(if ub.getD a (0:Int)+la.getD ((↑a:Int)+s).toNat (0:Int)>ub.getD a (0:Int)+la.getD ((↑a:Int)+s).toNat (0:Int) then ub.getD a (0:Int)+la.getD ((↑a:Int)+s).toNat (0:Int) else ub.getD a (0:Int)+la.getD ((↑a:Int)+s).toNat (0:Int))=a_10∧a_3+(1:Int)=a_11∧ub=ub∧(↑ub.length:Int)=(↑ub.length:Int)∧(↑a:Int)+(1:Int)=(↑a_8:Int)∧ua=ua∧la=la∧ub=ub∧lb=lb∧a_8≤ub.length∧(0:Int)≤a_11∧a_11≤(↑a_8:Int)∧s4 (gl la ub s a_8)=(a_9,a_10,a_11)∧ub.length-a_8<ub.length-a) (dK (a_3+(1:Int))∧dK ((↑a:Int)+(1:Int))∧∃ (a_8:Nat),∃ (a_9:Int),∃ (a_10:Int),∃ (a_11:Int),s=s∧(if ub.getD a (0:Int)+la.getD ((↑a:Int)+s).toNat (0:Int)<a_1 then ub.getD a (0:Int)+la.getD ((↑a:Int)+s).toNat (0:Int) else a_1)=a_9∧(if ub.getD a (0:Int)+la.getD ((↑a:Int)+s).toNat (0:Int)>a_2 then ub.getD a (0:Int)+la.getD ((↑a:Int)+s).toNat (0:Int) else a_2)=a_10∧a_3+(1:Int)=a_11∧ub=ub∧(↑ub.length:Int)=(↑ub.length:Int)∧(↑a:Int)+(1:Int)=(↑a_8:Int)∧ua=ua∧la=la∧ub=ub∧lb=lb∧a_8≤ub.length∧(0:Int)≤a_11∧a_11≤(↑a_8:Int)∧s4 (gl la ub s a_8)=(a_9,a_10,a_11)∧ub.length-a_8<ub.length-a)))) (a_1=(stA la ub s).fst∧a_2=(stA la ub s).snd.fst∧a_3=(stA la ub s).snd.snd∧True)))) (by kernel_rfl) ?_
 simp only[bJ,stA,dm,cE,cS,eR,dK,and_true,true_and,eq_self]
 refine⟨by omega,fun h=>by rw[vQ (.inl h)]; exact⟨rfl,rfl,rfl⟩,fun _=>⟨fun h=>by rw[vQ (.inr h)]; exact⟨rfl,rfl,rfl⟩,fun h=>⟨⟨0,0,0,0,rfl,rfl,rfl,rfl,by omega,by omega,by omega,rfl,by omega⟩,fun i lo hi m k1 k2 k3 k4=>⟨fun k5=>⟨by omega,by omega,fun k6=>⟨by omega,i+1,lo,hi,m,rfl,rfl,rfl,by omega,by omega,by omega,by omega,by rw[gl,if_neg (by omega)]; exact k4,by omega⟩,fun k6=>⟨fun k7=>⟨by omega,i+1,lo,hi,m,rfl,rfl,rfl,by omega,by omega,by omega,by omega,by rw[gl,if_neg (by omega)]; exact k4,by omega⟩,fun k7 => ?_⟩⟩,fun k5 => ?_⟩⟩⟩⟩
 ·have e1:=vh h6 (i:=i) (by omega)
  have e2:=vh h5 (i:=((i:Int)+s).toNat) (by omega)
  exact⟨by omega,by omega,fun k8=>⟨by omega,by omega,i+1,_,_,_,rfl,rfl,rfl,by omega,by omega,by omega,by omega,by rw[gl,if_pos (by omega)]; exact Oq k4 k8,by omega⟩,fun k8=>⟨by omega,by omega,i+1,_,_,_,rfl,rfl,rfl,by omega,by omega,by omega,by omega,by rw[gl,if_pos (by omega)]; exact Kp k4 k8,by omega⟩⟩
 ·rw[show i=ub.length by omega] at k4
  rw[k4]; exact⟨rfl,rfl,rfl⟩
def T1b:gh:=((T1.qU 58 fun a c=>dS (D81 a c)).Re 13 fun a=>dS (D11 a)).dw 78 fun a=>dS (D60 a)
def D46:List TV→List TV→Dn
 | [.ptr 0 0,.val (.int .i64 m)],[.sl (.int .i64) _ .no,.val (.int .u64 _)]=>some ([m≤1000,-10000≤m],Em bt fun k=>[0≤k,k≤m∨k=0],[])
 | _,_=>none
theorem v46:VC T1b Tryz.f15 [some bW] [some bZ,some (.int .u64)] D46:=by
 intro a cs p s j h hp
 unfold D46 at h
 split at h<;>cases h
 rename_i m r z
 obtain⟨h1,h2,-⟩:=hp
 refine sY (A:=aI (decide (m≤(0:Int))) (∃ (a:Int),∃ (a_1:List Int),∃ (a_2:Int),(0:Int)=a∧r=a_1∧z=a_2∧(0:Int)≤a∧(a≤m∨a=(0:Int))∧True) (∀ (a:Int) (a_1:List Int) (a_2:Int),(0:Int)≤a→a<(4294967296:Int)→dK (m+(1:Int))∧∃ (a_5:Int),∃ (a_6:List Int),∃ (a_7:Int),IntKind.i64.wrap ((IntKind.u64.wrap (a*IntKind.u64.wrap (m+(1:Int)))).fdiv (4294967296:Int))=a_5∧a_1=a_6∧a_2=a_7∧(0:Int)≤a_5∧(a_5≤m∨a_5=(0:Int))∧True)) (by kernel_rfl) ?_
 simp only[bJ,dm,cE,cS,eR,dK,and_true,true_and,eq_self]
 exact⟨fun h=>⟨0,_,_,rfl,rfl,rfl,by omega,by omega⟩,fun h k r1 z1 h3 h4=>⟨by omega,_,_,_,rfl,rfl,rfl,(TW h1 (by omega) h3 h4).1,(TW h1 (by omega) h3 h4).2⟩⟩
def D65:List TV→Dn
 | [.agg [.sl (.int .i64) ua .no,.sl (.int .i64) la .no],.agg [.sl (.int .i64) ub .no,.sl (.int .i64) lb .no],.val (.int .i64 w)]=>some ([la.length≤100,ub.length≤100,sV la,sV ub],.res (.sl bW (xB la ub w (ub.length+la.length+1)) .no) [] [],
  [(4,.ex Nat fun k => .st { sl:=[(7,.sl bW (xB la ub w k) (.oC 2)),(8,bt ((k:Int)-(ub.length:Int)))],own:=[(3,1)],dn:=[k≤ub.length+la.length+1],m:=ub.length+la.length+1-k })])
 | _=>none
theorem v65:VI T1b Tryz.f103 [some bZ] D65:=by
 intro a p s j h hp
 unfold D65 at h
 split at h<;>cases h
 rename_i ua la ub lb w
 obtain⟨h1,h2,h3,h4,-⟩:=hp
 refine sY (A:=dK (-(↑ub.length:Int))∧(∃ (a:Nat),[]=xB la ub w a ∧ -(↑ub.length:Int)=(↑a:Int)-(↑ub.length:Int)∧a≤ub.length+la.length+(1:Nat)∧ub.length+la.length+(1:Nat)-a<(1000000:Nat))∧∀ (a:Nat),a≤ub.length+la.length+(1:Nat)→aI (decide ((↑a:Int)-(↑ub.length:Int)≤(↑la.length:Int))) (la.length≤(1000:Nat)∧ub.length≤(1000:Nat)∧sV la∧sV ub∧aI (decide ((stA la ub ((↑a:Int)-(↑ub.length:Int))).snd.snd≥(3:Int))) (dK ((stA la ub ((↑a:Int)-(↑ub.length:Int))).snd.fst-(stA la ub ((↑a:Int)-(↑ub.length:Int))).fst)∧aI (decide ((stA la ub ((↑a:Int)-(↑ub.length:Int))).snd.fst-(stA la ub ((↑a:Int)-(↑ub.length:Int))).fst≤w)) ((xB la ub w a).length+(1:Nat)≤(1000000000:Nat)∧dK ((↑a:Int)-(↑ub.length:Int)+(1:Int))∧∃ (a_2:Nat),w=w∧ox bW.den∧xB la ub w a++[(↑a:Int)-(↑ub.length:Int)]=xB la ub w a_2∧(↑a:Int)-(↑ub.length:Int)+(1:Int)=(↑a_2:Int)-(↑ub.length:Int)∧ua=ua∧la=la∧ub=ub∧lb=lb∧a_2≤ub.length+la.length+(1:Nat)∧ub.length+la.length+(1:Nat)-a_2<ub.length+la.length+(1:Nat)-a) (dK ((↑a:Int)-(↑ub.length:Int)+(1:Int))∧∃ (a_2:Nat),w=w∧ox bW.den∧xB la ub w a=xB la ub w a_2∧(↑a:Int)-(↑ub.length:Int)+(1:Int)=(↑a_2:Int)-(↑ub.length:Int)∧ua=ua∧la=la∧ub=ub∧lb=lb∧a_2≤ub.length+la.length+(1:Nat)∧ub.length+la.length+(1:Nat)-a_2<ub.length+la.length+(1:Nat)-a)) (dK ((↑a:Int)-(↑ub.length:Int)+(1:Int))∧∃ (a_2:Nat),w=w∧ox bW.den∧xB la ub w a=xB la ub w a_2∧(↑a:Int)-(↑ub.length:Int)+(1:Int)=(↑a_2:Int)-(↑ub.length:Int)∧ua=ua∧la=la∧ub=ub∧lb=lb∧a_2≤ub.length+la.length+(1:Nat)∧ub.length+la.length+(1:Nat)-a_2<ub.length+la.length+(1:Nat)-a)) (xB la ub w a=xB la ub w (ub.length+la.length+(1:Nat))∧True)) (by kernel_rfl) ?_
 simp only[bJ,stA,dm,cE,cS,eR,dK,and_true,true_and,eq_self]
 refine⟨by omega,⟨0,rfl,by omega,by omega,by omega⟩,fun k hk=>⟨fun h=>⟨by omega,by omega,h3,h4,?_⟩,fun h=>by rw[show k=ub.length+la.length+1 by omega]⟩⟩
 have e:=WZ (ub:=ub) ((k:Int)-ub.length) h3 h4
 simp only[stA] at e
 have hl:=RP la ub w k
 exact⟨fun h5=>⟨by omega,fun h6=>⟨by omega,by omega,k+1,RO (decide_eq_true ⟨h5,h6⟩),by omega,by omega,by omega⟩,fun h6=>⟨by omega,k+1,NA (decide_eq_false fun e=>h6 e.2),by omega,by omega,by omega⟩⟩,fun h5=>⟨by omega,k+1,NA (decide_eq_false fun e=>h5 e.1),by omega,by omega,by omega⟩⟩
def T2:gh:=(((T1b.qU 15 fun a c=>dS (D46 a c)).dw 81 fun a=>dS (D16 a)).qU 132 fun a c=>dS (Wv a c)).dw 103 fun a=>dS (D65 a)
def D19:List TV→List TV→Dn
 | [.ptr 0 0,.val (.int .i64 lo),.val (.int .i64 hi)],[.sl (.int .i64) _ .no,.val (.int .u64 _)]=>some ([-1000≤lo,lo≤1000,-1000≤hi,hi≤1000+lo,hi≤5000],Em bt fun k=>[lo≤k,k≤hi∨k=lo],[])
 | _,_=>none
theorem v19:VC T2 Tryz.f70 [some bW] [some bZ,some (.int .u64)] D19:=by
 intro a cs p s j h hp
 unfold D19 at h
 split at h<;>cases h
 rename_i lo hi r z
 obtain⟨h1,h2,h3,h4,h5,-⟩:=hp
 refine sY (A:=dK (hi-lo)∧hi-lo≤(1000:Int)∧(-10000:Int)≤hi-lo∧∀ (a:Int) (a_1:List Int) (a_2:Int),(0:Int)≤a→a≤hi-lo∨a=(0:Int)→dK (lo+a)∧∃ (a_5:Int),∃ (a_6:List Int),∃ (a_7:Int),lo+a=a_5∧a_1=a_6∧a_2=a_7∧lo≤a_5∧(a_5≤hi∨a_5=lo)∧True) (by kernel_rfl) ?_
 simp only[bJ,dm,cE,cS,eR,dK,and_true,true_and,eq_self]
 exact⟨by omega,by omega,by omega,fun k r1 z1 h6 h7=>⟨by omega,_,_,_,rfl,rfl,rfl,by omega,by omega⟩⟩
def D27:List TV→List TV→Dn
 | [.ptr 0 0,.val (.int .i64 m)],[.sl (.int .i64) _ .no,.val (.int .u64 _)]=>some ([m≤1000,0≤m],.ex Bool fun b=>Em (fun _=>mz b) fun _=>[],[])
 | _,_=>none
theorem v27:VC T2 Tryz.f67 [some .bool] [some bZ,some (.int .u64)] D27:=by
 intro a cs p s j h hp
 unfold D27 at h
 split at h<;>cases h
 rename_i m r z
 obtain⟨h1,h2,-⟩:=hp
 refine sY (A:=dK (m-(1:Int))∧m-(1:Int)≤(1000:Int)∧(-10000:Int)≤m-(1:Int)∧∀ (a:Int) (a_1:List Int) (a_2:Int),(0:Int)≤a→a≤m-(1:Int)∨a=(0:Int)→∃ (a_5:Bool),∃ (a_6:Int),∃ (a_7:List Int),∃ (a_8:Int),(a==IntKind.i64.wrap (m.tdiv (2:Int)))=a_5∧a_1=a_7∧a_2=a_8∧True) (by kernel_rfl) ?_
 simp only[bJ,dm,cE,cS,eR,dK,and_true,true_and,eq_self]
 exact⟨by omega,by omega,by omega,fun k r1 z1 _ _=>⟨_,0,_,_,rfl,rfl,rfl⟩⟩
def D45:List TV→List TV→Dn
 | [.ptr 0 0,.sl (.int .i64) l .no],[.sl (.int .i64) _ .no,.val (.int .u64 _)]=>some ([0<l.length,l.length≤1000],Em bt fun k=>[k∈l],[])
 | _,_=>none
theorem v45:VC T2 Tryz.f69 [some bW] [some bZ,some (.int .u64)] D45:=by
 intro a cs p s j h hp
 unfold D45 at h
 split at h<;>cases h
 rename_i l r z
 obtain⟨h1,h2,-⟩:=hp
 refine sY (A:=dK ((↑l.length:Int)-(1:Int))∧(↑l.length:Int)-(1:Int)≤(1000:Int)∧(-10000:Int)≤(↑l.length:Int)-(1:Int)∧∀ (a:Int) (a_1:List Int) (a_2:Int),(0:Int)≤a→a≤(↑l.length:Int)-(1:Int)∨a=(0:Int)→((0:Int)≤a∧a<(↑l.length:Int))∧∃ (a_5:Int),∃ (a_6:List Int),∃ (a_7:Int),l.getD a.toNat (0:Int)=a_5∧a_1=a_6∧a_2=a_7∧a_5∈l∧True) (by kernel_rfl) ?_
 simp only[bJ,dm,cE,cS,eR,dK,and_true,true_and,eq_self]
 exact⟨by omega,by omega,by omega,fun k r1 z1 h3 h4=>⟨by omega,_,_,_,rfl,rfl,rfl,lF (by omega)⟩⟩
def D96:List TV→List TV→Dn
 | [.sl (.int .i64) l .no,.fn 121 [] [.ptr 0 0]],[.val (.int .i64 cM)]=>some ([l.length≤1000],.res (mz (!l.all (kK cM))) [bt cM] [],[])
 | _,_=>none
theorem v96:VC T2 Tryz.f120 [some .bool] [some bW] D96:=by
 intro a cs p s j h hp
 unfold D96 at h
 split at h<;>cases h
 rename_i l cM
 have h1:=hp.1
 refine sY (A:=l.length≤(1000:Nat)∧∀ (a:Int),(if l.all (kK cM)=true then a=(-1:Int) else (0:Int)≤a)→decide (a≥(0:Int)) = !l.all (kK cM)∧cM=cM∧True) (by kernel_rfl) ?_
 simp only[bJ,dm,cE,cS,eR,dK,and_true,true_and,eq_self]
 refine⟨h1,fun k hk => ?_⟩
 cases hl:l.all (kK cM)<;>simp[hl] at hk ⊢<;>omega
def T3:gh:=(((T2.qU 70 fun a c=>dS (D19 a c)).qU 67 fun a c=>dS (D27 a c)).qU 69 fun a c=>dS (D45 a c)).qU 120 fun a c=>dS (D96 a c)
def D44:List TV→List TV→Dn
 | [.ptr 0 0,.val (.int .i64 c)],[.sl (.int .i64) _ .no,.val (.int .u64 _)]=>some ([0≤c,c≤100],.ex (List Int) fun o => .ex (List Int) fun r => .ex Int fun z => .res (.sl bW o .no) (tg r z) [(o.length:Int)=c,sV o],
  [(5,.ex Nat fun i => .ex (List Int) fun o => .ex (List Int) fun r => .ex Int fun z => .st { sl:=[(6,.sl bW o (.oC 1)),(7,bt i)],pl:=[(0,tg r z)],own:=[(3,1)],dn:=[(i:Int)≤c,o.length=i,sV o],m:=c.toNat-i })])
 | _,_=>none
theorem v44:VC T3 Tryz.f87 [some bZ] [some bZ,some (.int .u64)] D44:=by
 intro a cs p s j h hp
 unfold D44 at h
 split at h<;>cases h
 rename_i c r z
 obtain⟨h1,h2,-⟩:=hp
 refine sY (A:=(7:Int)≤(1000:Int)∧(-10000:Int)≤(7:Int)∧∀ (a:Int) (a_1:List Int) (a_2:Int),(0:Int)≤a→a≤(7:Int)∨a=(0:Int)→(0:Nat)<(3:Nat)∧(3:Nat)≤(1000:Nat)∧∀ (a_5:Int) (a_6:List Int) (a_7:Int),a_5∈[(0:Int),(2:Int),a]→(∃ (a:Nat),∃ (a_8:List Int),∃ (a_9:List Int),∃ (a_10:Int),[]=a_8∧(0:Int)=(↑a:Int)∧a_6=a_9∧a_7=a_10∧(↑a:Int)≤c∧a_8.length=a∧sV a_8∧c.toNat-a<(1000000:Nat))∧∀ (a:Nat) (a_8 a_9:List Int) (a_10:Int),(↑a:Int)≤c→a_8.length=a→sV a_8→aI (decide ((↑a:Int)<c)) ((0:Nat)<(4:Nat)∧(4:Nat)≤(1000:Nat)∧∀ (a_14:Int) (a_15:List Int) (a_16:Int),a_14∈[(0:Int),(0:Int),(1:Int),(2:Int)]→dK (a_5+a_14)∧a_8.length+(1:Nat)≤(1000000000:Nat)∧dK ((↑a:Int)+(1:Int))∧∃ (a_18:Nat),∃ (a_19:List Int),∃ (a_20:List Int),∃ (a_21:Int),c=c∧ox bW.den∧a_5=a_5∧a_8++[a_5+a_14]=a_19∧(↑a:Int)+(1:Int)=(↑a_18:Int)∧a_15=a_20∧a_16=a_21∧(↑a_18:Int)≤c∧a_19.length=a_18∧sV a_19∧c.toNat-a_18<c.toNat-a) (∃ (a:List Int),∃ (a_14:List Int),∃ (a_15:Int),a_8=a∧a_9=a_14∧a_10=a_15∧(↑a.length:Int)=c∧sV a∧True)) (by kernel_rfl) ?_
 simp only[bJ,dm,cE,cS,eR,dK,and_true,true_and,eq_self]
 refine⟨by omega,by omega,fun k1 r1 z1 h3 h4=>⟨by omega,by omega,fun k2 r2 z2 h5 => ?_⟩⟩
 have h6:0≤k2∧k2≤7:=by simp at h5; omega
 refine⟨⟨0,[],r2,z2,rfl,rfl,rfl,rfl,h1,rfl,by simp[sV],by omega⟩,fun i o r3 z3 h6 h7 h8=>⟨fun h9=>⟨by omega,by omega,fun k4 r4 z4 uU => ?_⟩,fun h9=>⟨_,_,_,rfl,rfl,rfl,by omega,h8⟩⟩⟩
 have DM:0≤k4∧k4≤2:=by simp at uU; omega
 exact⟨by omega,by omega,by omega,i+1,_,_,_,rfl,by omega,rfl,rfl,by omega,by simp[h7],Fq h8 (by omega),by omega⟩
def D47:List TV→List TV→Dn
 | [.ptr 0 0],[.sl (.int .i64) _ .no,.val (.int .u64 _)]=>some ([],.ex (List Int) fun o => .ex (List Int) fun r => .ex Int fun z => .res (.sl bW o .no) (tg r z) [o≠[],∀ x∈o,0≤x∧x≤3,o.Pairwise (· < ·)],
  [(4,.ex Nat fun i => .ex (List Int) fun o => .ex (List Int) fun r => .ex Int fun z => .st { sl:=[(3,.sl bW o (.oC 1)),(4,bt i)],pl:=[(0,tg r z)],own:=[(3,1)],dn:=[i≤4,o.length≤i,∀ x∈o,0≤x∧x<i,o.Pairwise (· < ·)],m:=4-i })])
 | _,_=>none
theorem v47:VC T3 Tryz.f88 [some bZ] [some bZ,some (.int .u64)] D47:=by
 intro a cs p s j h hp
 unfold D47 at h
 split at h<;>cases h
 rename_i r z
 refine sY (A:=(∃ (a:Nat),∃ (a_1:List Int),∃ (a_2:List Int),∃ (a_3:Int),[]=a_1∧(0:Int)=(↑a:Int)∧r=a_2∧z=a_3∧a≤(4:Nat)∧a_1.length≤a∧(∀ (x:Int),x∈a_1→(0:Int)≤x∧x<(↑a:Int))∧List.Pairwise (fun(x1 x2:Int)=>x1<x2) a_1∧(4:Nat)-a<(1000000:Nat))∧∀ (a:Nat) (a_1 a_2:List Int) (a_3:Int),a≤(4:Nat)→a_1.length≤a→(∀ (x:Int),x∈a_1→(0:Int)≤x∧x<(↑a:Int))→List.Pairwise (fun(x1 x2:Int)=>x1<x2) a_1→aI (decide ((↑a:Int)≤(3:Int))) ((2:Int)≤(1000:Int)∧(0:Int)≤(2:Int)∧∀ (a_8:Bool) (a_9:Int) (a_10:List Int) (a_11:Int),aI a_8 (a_1.length+(1:Nat)≤(1000000000:Nat)∧dK ((↑a:Int)+(1:Int))∧∃ (a_12:Nat),∃ (a_13:List Int),∃ (a_14:List Int),∃ (a_15:Int),ox bW.den∧a_1++[(↑a:Int)]=a_13∧(↑a:Int)+(1:Int)=(↑a_12:Int)∧a_10=a_14∧a_11=a_15∧a_12≤(4:Nat)∧a_13.length≤a_12∧(∀ (x:Int),x∈a_13→(0:Int)≤x∧x<(↑a_12:Int))∧List.Pairwise (fun(x1 x2:Int)=>x1<x2) a_13∧(4:Nat)-a_12<(4:Nat)-a) (dK ((↑a:Int)+(1:Int))∧∃ (a_12:Nat),∃ (a_13:List Int),∃ (a_14:List Int),∃ (a_15:Int),ox bW.den∧a_1=a_13∧(↑a:Int)+(1:Int)=(↑a_12:Int)∧a_10=a_14∧a_11=a_15∧a_12≤(4:Nat)∧a_13.length≤a_12∧(∀ (x:Int),x∈a_13→(0:Int)≤x∧x<(↑a_12:Int))∧List.Pairwise (fun(x1 x2:Int)=>x1<x2) a_13∧(4:Nat)-a_12<(4:Nat)-a)) (aI ((↑a_1.length:Int)==(0:Int)) ((3:Int)≤(1000:Int)∧(-10000:Int)≤(3:Int)∧∀ (a:Int) (a_8:List Int) (a_9:Int),(0:Int)≤a→a≤(3:Int)∨a=(0:Int)→∃ (a_12:List Int),∃ (a_13:List Int),∃ (a_14:Int),[a]=a_12∧a_8=a_13∧a_9=a_14∧a_12≠[]∧(∀ (x:Int),x∈a_12→(0:Int)≤x∧x≤(3:Int))∧List.Pairwise (fun(x1 x2:Int)=>x1<x2) a_12∧True) (∃ (a:List Int),∃ (a_8:List Int),∃ (a_9:Int),a_1=a∧a_2=a_8∧a_3=a_9∧a≠[]∧(∀ (x:Int),x∈a→(0:Int)≤x∧x≤(3:Int))∧List.Pairwise (fun(x1 x2:Int)=>x1<x2) a∧True))) (by kernel_rfl) ?_
 simp only[bJ,dm,cE,cS,eR,dK,and_true,true_and,eq_self]
 refine⟨⟨0,[],_,_,rfl,rfl,rfl,rfl,by omega,by simp,by simp,by simp,by omega⟩,fun i o r1 z1 h1 h2 h3 h4=>⟨fun h5=>⟨by omega,by omega,fun b _ r2 z2 => ?_⟩,fun h5=>⟨fun h6=>⟨by omega,by omega,fun k r2 z2 h7 h8=>⟨_,_,_,rfl,rfl,rfl,by simp,by simp; omega,by simp⟩⟩,fun h6=>⟨_,_,_,rfl,rfl,rfl,fun e=>h6 (by rw[e]; rfl),fun x hx=>by have:=h3 x hx; omega,h4⟩⟩⟩⟩
 rw[iB]
 exact⟨fun _=>⟨by omega,by omega,i+1,_,_,_,rfl,by omega,rfl,rfl,by omega,by simp; omega,Fq (fun x hx=>by have:=h3 x hx; omega) (by omega),PM h4 (fun x hx=>(h3 x hx).2),by omega⟩,fun _=>⟨by omega,i+1,_,_,_,rfl,by omega,rfl,rfl,by omega,by omega,fun x hx=>by have:=h3 x hx; omega,h4,by omega⟩⟩
def D78:List TV→Dn
 | [.sl (.int .i64) l .no,.val (.int .i64 cM)]=>some ([l.length≤1000],.res (mz (l.all (kK cM))) [] [],[])
 | _=>none
theorem v78:VI T3 Tryz.f90 [some .bool] D78:=by
 intro a p s j h hp
 unfold D78 at h
 split at h<;>cases h
 rename_i l cM
 have h1:=hp.1
 refine sY (A:=l.length≤(1000:Nat)∧(!!l.all (kK cM))=l.all (kK cM)∧True) (by kernel_rfl) ?_
 exact⟨h1,Bool.not_not _,trivial⟩
def T4:gh:=((T3.qU 87 fun a c=>dS (D44 a c)).qU 88 fun a c=>dS (D47 a c)).dw 90 fun a=>dS (D78 a)
section
variable {aV:bk} (tk:oK aV)
include tk
theorem ML:jU aV 1 T1b:=qI tk (gm tk) (by decide) Tryz.func78 rfl v60 (mkN tk (gm tk) (by decide) Tryz.func13 rfl v11 (JK (gm tk) Tryz.func58 rfl v81 (QF tk)))
theorem B9:jU aV 2 T2:=qI tk (ML tk) (by decide) Tryz.func103 rfl v65 (JK (QF tk) Tryz.func132 rfl v109 (qI tk (QF tk) (by decide) Tryz.func81 rfl v16 (JK (ML tk) Tryz.func15 rfl v46 (iC (ML tk)))))
theorem QE:jU aV 3 T3:=JK (B9 tk) Tryz.func120 rfl v96 (JK (B9 tk) Tryz.func69 rfl v45 (JK (B9 tk) Tryz.func67 rfl v27 (JK (B9 tk) Tryz.func70 rfl v19 (iC (B9 tk)))))
theorem QD:jU aV 4 T4:=qI tk (QE tk) (by decide) Tryz.func90 rfl v78 (JK (QE tk) Tryz.func88 rfl v47 (JK (QE tk) Tryz.func87 rfl v44 (iC (QE tk))))
end
end Go.Tv
end
section
namespace Go.Tv
open Go Go.Di Go.Proofs
set_option maxRecDepth 100000
abbrev pcS (f : List Int → List Int → Int → List Int → List Prop) : qX := .ex (List Int) fun u => .ex (List Int) fun l => .ex Int fun w => .ex (List Int) fun ls => .ex (List Int) fun r => .ex Int fun z => .res (JJ u l w ls) (tg r z) (f u l w ls)
def D12 : List TV → List TV → Dn
 | [.ptr 0 0, .val (.int .i64 c)], [.sl (.int .i64) _ .no, .val (.int .u64 _)] => some ([3 ≤ c, c ≤ 8], pcS fun u l w ls => [Ok u l w ls, (u.length : Int) ≤ c], [])
 | _, _ => none
theorem v12 : VC T4 Tryz.f39 [some aJ] [some bZ, some (.int .u64)] D12 := by
 intro a cs p s j h hp
 unfold D12 at h
 split at h <;> cases h
 rename_i c r z
 obtain ⟨h1, h2, -⟩ := hp
 refine sY (A := (-1000 : Int) ≤ (3 : Int) ∧ (3 : Int) ≤ (1000 : Int) ∧ (-1000 : Int) ≤ c ∧ c ≤ (1003 : Int) ∧ c ≤ (5000 : Int) ∧ ∀ (a : Int) (a_1 : List Int) (a_2 : Int), (3 : Int) ≤ a → a ≤ c ∨ a = (3 : Int) → (0 : Int) ≤ a ∧ a ≤ (100 : Int) ∧ ∀ (a_5 a_6 : List Int) (a_7 : Int), (↑a_5.length : Int) = a → sV a_5 → (0 : Int) ≤ a ∧ a ≤ (100 : Int) ∧ ∀ (a_10 a_11 : List Int) (a_12 : Int), (↑a_10.length : Int) = a → sV a_10 → (2 : Int) ≤ (1000 : Int) ∧ (-10000 : Int) ≤ (2 : Int) ∧ ∀ (a : Int) (a_13 : List Int) (a_14 : Int), (0 : Int) ≤ a → a ≤ (2 : Int) ∨ a = (0 : Int) → (0 : Nat) < (4 : Nat) ∧ (4 : Nat) ≤ (1000 : Nat) ∧ ∀ (a_17 : Int) (a_18 : List Int) (a_19 : Int), a_17 ∈ [(0 : Int), (0 : Int), (1 : Int), a] → ∀ (a a_20 : List Int) (a_21 : Int), a ≠ [] → (∀ (x : Int), x ∈ a → (0 : Int) ≤ x ∧ x ≤ (3 : Int)) → List.Pairwise (fun (x1 x2 : Int) => x1 < x2) a → ∃ (a_25 : List Int), ∃ (a_26 : List Int), ∃ (a_27 : Int), ∃ (a_28 : List Int), ∃ (a_29 : List Int), ∃ (a_30 : Int), a_5 = a_25 ∧ a_10 = a_26 ∧ a_17 = a_27 ∧ a = a_28 ∧ a_20 = a_29 ∧ a_21 = a_30 ∧ Ok a_25 a_26 a_27 a_28 ∧ (↑a_25.length : Int) ≤ c ∧ True) (by kernel_rfl) ?_
 simp only [bJ, dm, cE, cS, eR, dK, and_true, true_and, eq_self]
 refine ⟨by omega, by omega, by omega, by omega, by omega, fun n r1 z1 h3 h4 => ⟨by omega, by omega, fun u r2 z2 h5 h6 => ⟨by omega, by omega, fun l r3 z3 h7 h8 => ⟨by omega, by omega, fun k r4 z4 h9 uU => ⟨by omega, by omega, fun w r5 z5 DM ls r6 z6 TP h13 h14 => ?_⟩⟩⟩⟩⟩
 have Vl : 0 ≤ w ∧ w ≤ 2 := by simp at DM; omega
 exact ⟨u, l, w, ls, r6, z6, rfl, rfl, rfl, rfl, rfl, rfl, ⟨by omega, by omega, by omega, h6, h8, Vl.1, Vl.2, TP, h13, h14⟩, by omega⟩
def D77 : List TV → Dn
 | [.agg [.sl (.int .i64) u .no, .sl (.int .i64) l .no, .val (.int .i64 w), .sl (.int .i64) ls .no]] => some ([Sh u l ls], .res (bt (gf u l w ls)) [] [],
  [(3, .un 3), (19, .ex Nat fun i => .st { sl := [(71, bt i)], dn := [i ≤ ls.length, gX ls 0 = gX ls i], m := ls.length - i })])
 | _ => none
set_option maxHeartbeats 1000000 in
theorem v77 : VI T4 Tryz.f89 [some bW] D77 := by
 intro a p s j h hp
 unfold D77 at h
 split at h <;> cases h
 rename_i u l w ls
 change List Int at u l ls
 obtain ⟨h1, h2, h3⟩ := hp.1
 refine sY (A := ((0 : Int) ≤ (0 : Int) ∧ (0 : Int) < (↑(2 : Nat) : Int)) ∧ aI (decide ((↑u.length : Int) < (3 : Int))) ((7 : Int) = gf u l w ls ∧ True) (aI (decide ((↑u.length : Int) < (↑u.length : Int))) ((7 : Int) = gf u l w ls ∧ True) (aI (decide ((↑u.length : Int) > (8 : Int))) ((6 : Int) = gf u l w ls ∧ True) (aI (decide ((↑u.length : Int) > (↑u.length : Int))) ((6 : Int) = gf u l w ls ∧ True) (dK (1 : Int) ∧ ((0 : Int) ≤ (1 : Int) ∧ (1 : Int) < (↑(2 : Nat) : Int)) ∧ aI (decide ((↑l.length : Int) < (3 : Int))) ((7 : Int) = gf u l w ls ∧ True) (aI (decide ((↑l.length : Int) < (↑u.length : Int))) ((7 : Int) = gf u l w ls ∧ True) (aI (decide ((↑l.length : Int) > (8 : Int))) ((6 : Int) = gf u l w ls ∧ True) (aI (decide ((↑l.length : Int) > (↑u.length : Int))) ((6 : Int) = gf u l w ls ∧ True) (dK (2 : Int) ∧ u.length ≤ (1000 : Nat) ∧ aI (!u.all (kK (9 : Int))) ((1 : Int) = gf u l w ls ∧ True) (l.length ≤ (1000 : Nat) ∧ aI (!l.all (kK (9 : Int))) ((1 : Int) = gf u l w ls ∧ True) (aI (decide (w < (0 : Int))) ((1 : Int) = gf u l w ls ∧ True) (aI (decide (w > (2 : Int))) ((1 : Int) = gf u l w ls ∧ True) (aI ((↑ls.length : Int) == (0 : Int)) ((7 : Int) = gf u l w ls ∧ True) ((∃ (a : Nat), (0 : Int) = (↑a : Int) ∧ a ≤ ls.length ∧ gX ls (0 : Nat) = gX ls a ∧ ls.length - a < (1000000 : Nat)) ∧ ∀ (a : Nat), a ≤ ls.length → gX ls (0 : Nat) = gX ls a → aI (decide ((↑a : Int) < (↑ls.length : Int))) (((0 : Int) ≤ (↑a : Int) ∧ (↑a : Int) < (↑ls.length : Int)) ∧ aI (decide (ls.getD a (0 : Int) < (0 : Int))) ((8 : Int) = gf u l w ls ∧ True) (aI (decide (ls.getD a (0 : Int) > (3 : Int))) ((8 : Int) = gf u l w ls ∧ True) (aI (decide ((↑a : Int) > (0 : Int))) (dK ((↑a : Int) - (1 : Int)) ∧ ((0 : Int) ≤ (↑a : Int) - (1 : Int) ∧ (↑a : Int) - (1 : Int) < (↑ls.length : Int)) ∧ aI (decide (ls.getD a (0 : Int) ≤ ls.getD ((↑a : Int) - (1 : Int)).toNat (0 : Int))) ((5 : Int) = gf u l w ls ∧ True) (dK ((↑a : Int) + (1 : Int)) ∧ ∃ (a_3 : Nat), ls = ls ∧ (↑ls.length : Int) = (↑ls.length : Int) ∧ (↑a : Int) + (1 : Int) = (↑a_3 : Int) ∧ u = u ∧ l = l ∧ w = w ∧ ls = ls ∧ a_3 ≤ ls.length ∧ gX ls (0 : Nat) = gX ls a_3 ∧ ls.length - a_3 < ls.length - a)) (dK ((↑a : Int) + (1 : Int)) ∧ ∃ (a_3 : Nat), ls = ls ∧ (↑ls.length : Int) = (↑ls.length : Int) ∧ (↑a : Int) + (1 : Int) = (↑a_3 : Int) ∧ u = u ∧ l = l ∧ w = w ∧ ls = ls ∧ a_3 ≤ ls.length ∧ gX ls (0 : Nat) = gX ls a_3 ∧ ls.length - a_3 < ls.length - a)))) ((0 : Int) = gf u l w ls ∧ True))))))))))))))) (by kernel_rfl) ?_
 simp only [bJ, dm, cE, cS, eR, dK, and_true, true_and, eq_self]
 refine ⟨by omega, fun a1 => ?_, fun a1 => ⟨fun a2 => by omega, fun _ => ⟨fun a3 => ?_, fun a3 => ⟨fun _ => by omega, fun _ => ⟨by omega, by omega, fun a4 => ?_, fun a4 => ⟨fun a5 => ?_, fun a5 => ⟨fun a6 => ?_, fun a6 => ⟨fun a7 => ?_, fun a7 => ⟨by omega, by omega, ?_⟩⟩⟩⟩⟩⟩⟩⟩⟩
 ·rw [gf, if_pos (by omega)]
 ·rw [gf, if_neg (by omega), if_pos (by omega)]
 ·rw [gf, if_neg (by omega), if_neg (by omega), if_pos (by omega)]
 ·rw [gf, if_neg (by omega), if_neg (by omega), if_pos (by omega)]
 ·rw [gf, if_neg (by omega), if_neg (by omega), if_neg (by omega), if_pos (by omega)]
 ·rw [gf, if_neg (by omega), if_neg (by omega), if_neg (by omega), if_pos (by omega)]
 have e1 : ∀ (_ : u.all (kK 9) = false ∨ l.all (kK 9) = false ∨ w < 0 ∨ 2 < w), 1 = gf u l w ls := fun h => by rw [gf, if_neg (by omega), if_neg (by omega), if_neg (by omega), if_neg (by omega), if_pos h]
 rw [iB]
 refine ⟨fun b1 => ⟨by omega, ?_⟩, fun b1 => e1 (.inl b1)⟩
 rw [iB]
 refine ⟨fun b2 => ⟨fun b3 => e1 (.inr (.inr (.inl b3))), fun b3 => ⟨fun b4 => e1 (.inr (.inr (.inr b4))), fun b4 => ⟨fun b5 => ?_, fun b5 => ?_⟩⟩⟩, fun b2 => e1 (.inr (.inl b2))⟩
 ·rw [gf, if_neg (by omega), if_neg (by omega), if_neg (by omega), if_neg (by omega), if_neg (by rw [b1, b2]; simp; omega), if_pos (by omega)]
 have e : gf u l w ls = gX ls 0 := Jx (by omega) (by omega) (by omega) (by omega) (by rw [b1]; rfl) (by rw [b2]; rfl) (by omega) (by omega) (by omega)
 rw [e]
 refine ⟨⟨0, rfl, by omega, rfl, by omega⟩, fun i k1 k2 => ⟨fun k3 => ⟨by omega, fun k4 => ?_, fun k4 => ⟨fun k5 => ?_, fun k5 => ⟨fun k6 => ⟨by omega, by omega, fun k7 => ?_, fun k7 => ⟨by omega, i + 1, by omega, by omega, k2.trans (pF (by omega) (by omega) ?_), by omega⟩⟩, fun k6 => ⟨by omega, i + 1, by omega, by omega, k2.trans (pF (by omega) (by omega) (by omega)), by omega⟩⟩⟩⟩, fun k3 => ?_⟩⟩
 ·rw [k2, Iq (by omega) (.inl k4)]
 ·rw [k2, Iq (by omega) (.inr (by omega))]
 ·rw [k2, MW (by omega) (by omega) ⟨by omega, by rw [show i - 1 = ((i : Int) - 1).toNat by omega]; exact k7⟩]
 ·rw [show i - 1 = ((i : Int) - 1).toNat by omega]; exact fun h => k7 h.2
 ·rw [k2, MX (by omega)]
def T5 : gh := (T4.qU 39 fun a c => dS (D12 a c)).dw 89 fun a => dS (D77 a)
def D13 : List TV → List TV → Dn
 | [.ptr 0 0, .agg [.sl (.int .i64) u .no, .sl (.int .i64) l .no, .val (.int .i64 w), .sl (.int .i64) ls .no]], [.sl (.int .i64) _ .no, .val (.int .u64 _)] => some ([Ok u l w ls], pcS fun u1 l1 w1 X2 => [Ok u1 l1 w1 X2, u1 = l.map (9 - ·)],
  [(5, .ex (List Int) fun u1 => .ex (List Int) fun l1 => .ex Int fun w1 => .ex (List Int) fun X2 => .ex (List Int) fun r => .ex Int fun z => .ex Nat fun i => .st { sl := [(6, bt i)], pl := [(0, tg r z), (3, [.sl bW ((l.take i).map (9 - ·)) (.oC 4), .sl bW l1 .no, bt w1, .sl bW X2 .no])], own := [(3, 1)], dn := [i ≤ l.length, Ok u1 l1 w1 X2, l1.length = l.length], m := l.length - i })])
 | _, _ => none
theorem v13 : VC T5 Tryz.f40 [some aJ] [some bZ, some (.int .u64)] D13 := by
 intro a cs p s j h hp
 unfold D13 at h
 split at h <;> cases h
 rename_i u l w ls r z
 have h1 := hp.1
 refine sY (A := (3 : Int) ≤ (↑u.length : Int) ∧ (↑u.length : Int) ≤ (8 : Int) ∧ ∀ (a a_1 : List Int) (a_2 : Int) (a_3 a_4 : List Int) (a_5 : Int), Ok a a_1 a_2 a_3 → (↑a.length : Int) ≤ (↑u.length : Int) → (0 : Int) ≤ (↑u.length : Int) ∧ (↑u.length : Int) ≤ (100 : Int) ∧ ∀ (a a_7 : List Int) (a_8 : Int), (↑a.length : Int) = (↑u.length : Int) → sV a → (∃ (a_11 : List Int), ∃ (a_12 : List Int), ∃ (a_13 : Int), ∃ (a_14 : List Int), ∃ (a_15 : List Int), ∃ (a_16 : Int), ∃ (a_17 : Nat), (0 : Int) = (↑a_17 : Int) ∧ a_7 = a_15 ∧ a_8 = a_16 ∧ [] = List.map (fun (x : bW.den) => (9 : bW.den) - x) (List.take a_17 l) ∧ a = a_12 ∧ a_2 = a_13 ∧ a_3 = a_14 ∧ a_17 ≤ l.length ∧ Ok a_11 a_12 a_13 a_14 ∧ a_12.length = l.length ∧ l.length - a_17 < (1000000 : Nat)) ∧ ∀ (a a_11 : List Int) (a_12 : Int) (a_13 a_14 : List Int) (a_15 : Int) (a_16 : Nat), a_16 ≤ l.length → Ok a a_11 a_12 a_13 → a_11.length = l.length → aI (decide ((↑a_16 : Int) < (↑l.length : Int))) (((0 : Int) ≤ (↑a_16 : Int) ∧ (↑a_16 : Int) < (↑l.length : Int)) ∧ dK ((9 : Int) - l.getD a_16 (0 : Int)) ∧ (List.map (fun (x : bW.den) => (9 : bW.den) - x) (List.take a_16 l)).length + (1 : Nat) ≤ (1000000000 : Nat) ∧ dK ((↑a_16 : Int) + (1 : Int)) ∧ ∃ (a : List Int), ∃ (a_18 : List Int), ∃ (a_19 : Int), ∃ (a_20 : List Int), ∃ (a_21 : List Int), ∃ (a_22 : Int), ∃ (a_23 : Nat), (↑a_16 : Int) + (1 : Int) = (↑a_23 : Int) ∧ a_14 = a_21 ∧ a_15 = a_22 ∧ u = u ∧ l = l ∧ w = w ∧ ls = ls ∧ (0 : Int) = (0 : Int) ∧ List.map (fun (x : bW.den) => (9 : bW.den) - x) (List.take a_16 l) ++ [(9 : Int) - l.getD a_16 (0 : Int)] = List.map (fun (x : bW.den) => (9 : bW.den) - x) (List.take a_23 l) ∧ a_11 = a_18 ∧ a_12 = a_19 ∧ a_13 = a_20 ∧ a_23 ≤ l.length ∧ Ok a a_18 a_19 a_20 ∧ a_18.length = l.length ∧ l.length - a_23 < l.length - a_16) (∃ (a : List Int), ∃ (a_18 : List Int), ∃ (a_19 : Int), ∃ (a_20 : List Int), ∃ (a_21 : List Int), ∃ (a_22 : Int), List.map (fun (x : bW.den) => (9 : bW.den) - x) (List.take a_16 l) = a ∧ a_11 = a_18 ∧ a_12 = a_19 ∧ a_13 = a_20 ∧ a_14 = a_21 ∧ a_15 = a_22 ∧ Ok a a_18 a_19 a_20 ∧ a = List.map (fun (x : bW.den) => (9 : bW.den) - x) l ∧ True)) (by kernel_rfl) ?_
 simp only [bJ, dm, cE, cS, eR, dK, and_true, true_and, eq_self]
 have := h1.n3
 have := h1.n8
 have := h1.len
 refine ⟨by omega, by omega, fun u1 l1 w1 X2 r1 z1 h2 h3 => ⟨by omega, by omega, fun o r2 z2 h4 h5 => ⟨⟨o, o, w1, X2, r2, z2, 0, rfl, rfl, rfl, rfl, rfl, rfl, rfl, by omega, ⟨by omega, by omega, rfl, h5, h5, h2.w0, h2.w2, h2.ne, h2.UW, h2.Yt⟩, by omega, by omega⟩, fun u3 o w ls r3 z3 i h6 h7 h8 => ⟨fun h9 => ?_, fun h9 => ?_⟩⟩⟩⟩
 ·have := h1.hl _ (lF (l := l) (i := i) (by omega))
  exact ⟨by omega, by omega, by simp; omega, by omega, u3, o, w, ls, r3, z3, i + 1, by omega, rfl, rfl, AM (f := fun x => 9 - x) (by omega), rfl, rfl, rfl, by omega, h7, h8, by omega⟩
 ·rw [show i = l.length by omega, List.take_length]
  exact ⟨_, o, w, ls, r3, z3, rfl, rfl, rfl, rfl, rfl, rfl, O4 h7 h8 h1.hl, rfl⟩
def D59 : List TV → Dn
 | [.sl (.pair (.sl (.int .i64)) (.pair (.sl (.int .i64)) (.pair (.int .i64) (.pair (.sl (.int .i64)) .unit)))) l .no] => some ([l.length ≤ 1000, ∀ p ∈ l, dH p], .res (bt (iA l)) [] [],
  [(3, .ex Nat fun i => .st { sl := [(8, bt i)], dn := [i ≤ l.length, iA (l.take i) = 0], m := l.length - i })])
 | _ => none
theorem v59 : VI T5 Tryz.f94 [some bW] D59 := by
 intro a p s j h hp
 unfold D59 at h
 split at h <;> cases h
 rename_i l
 obtain ⟨h1, h2, -⟩ := hp
 refine sY (A := (∃ (a : Nat), (0 : Int) = (↑a : Int) ∧ a ≤ l.length ∧ iA (List.take a l) = (0 : Int) ∧ l.length - a < (1000000 : Nat)) ∧ ∀ (a : Nat), a ≤ l.length → iA (List.take a l) = (0 : Int) → aI (decide ((↑a : Int) < (↑l.length : Int))) (((0 : Int) ≤ (↑a : Int) ∧ (↑a : Int) < (↑l.length : Int)) ∧ Sh (l.getD a ([], [], (0 : Int), [], ())).fst (l.getD a ([], [], (0 : Int), [], ())).snd.fst (l.getD a ([], [], (0 : Int), [], ())).snd.snd.snd.fst ∧ aI (gf (l.getD a ([], [], (0 : Int), [], ())).fst (l.getD a ([], [], (0 : Int), [], ())).snd.fst (l.getD a ([], [], (0 : Int), [], ())).snd.snd.fst (l.getD a ([], [], (0 : Int), [], ())).snd.snd.snd.fst != (0 : Int)) (gf (l.getD a ([], [], (0 : Int), [], ())).fst (l.getD a ([], [], (0 : Int), [], ())).snd.fst (l.getD a ([], [], (0 : Int), [], ())).snd.snd.fst (l.getD a ([], [], (0 : Int), [], ())).snd.snd.snd.fst = iA l ∧ True) (dK ((↑a : Int) + (1 : Int)) ∧ ∃ (a_3 : Nat), l = l ∧ (↑l.length : Int) = (↑l.length : Int) ∧ (↑a : Int) + (1 : Int) = (↑a_3 : Int) ∧ a_3 ≤ l.length ∧ iA (List.take a_3 l) = (0 : Int) ∧ l.length - a_3 < l.length - a)) ((0 : Int) = iA l ∧ True)) (by kernel_rfl) ?_
 simp only [bJ, dm, cE, cS, eR, dK, and_true, true_and, eq_self]
 refine ⟨⟨0, rfl, by omega, rfl, by omega⟩, fun i k1 k2 => ⟨fun k3 => ⟨by omega, jd (P := dH) (by omega) h2, fun k4 => ⟨by omega, i + 1, by omega, by omega, PF (by omega) k2 k4, by omega⟩, fun k4 => (SZ (by omega) k2 k4).symm⟩, fun k3 => ?_⟩⟩
 rw [show i = l.length by omega, List.take_length] at k2
 rw [k2]
def T6 : gh := (T5.qU 40 fun a c => dS (D13 a c)).dw 94 fun a => dS (D59 a)
def T7 : gh := T6
def T8 : gh := T7
section
variable {aV : bk} (tk : oK aV)
include tk
theorem Vt : jU aV 5 T5 := qI tk (QD tk) (by decide) Tryz.func89 rfl v77 (JK (QD tk) Tryz.func39 rfl v12 (iC (QD tk)))
theorem Zs : jU aV 6 T6 := qI tk (Vt tk) (by decide) Tryz.func94 rfl v59 (JK (Vt tk) Tryz.func40 rfl v13 (iC (Vt tk)))
end
end Go.Tv
end
section
namespace Go.Tv
open Go Go.Di Go.Proofs
end Go.Tv
end
