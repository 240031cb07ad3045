import Derived.Test.YtedcgbkilmlbhaaGreatPk09
section
namespace Go.Tv
open Go Go.Di Go.Proofs
set_option maxRecDepth 100000
set_option maxHeartbeats 1000000
abbrev D9 (v:Int→TV) (f:Int→List Prop):q9 := .ex Int fun k => .ex (List Int) fun r => .ex Int fun z => .res (v k) (rI r z) (f k)
def D81:List TV→List TV→Dn
 | [.ptr 0 0],[.sl (.int .i64) _ .no,.val (.int .u64 z)]=>some ([],D9 (fun k => .val (.int .u64 k)) fun k=>[0≤k,k<4294967296],[(2,.ex Int fun k => .ex (List Int) fun r => .st { sl:=[(3,.val (.int .u64 k))],pl:=[(0,rI r z)] })])
 | _,_=>none
theorem v81:VC T0 Tryz.f58 [some (.int .u64)] [some cB,some (.int .u64)] D81:=by
 intro a cs p s j h hp
 unfold D81 at h
 split at h<;>cases h
 rename_i r z
 refine sP (A:=aM (decide ((↑r.length:Int)>(0:Int))) (((0:Int)≤(0:Int)∧(0:Int)<(↑r.length:Int))∧((0:Int)≤(1:Int)∧(1:Int)≤(↑r.length:Int))∧∃ (a:Int),∃ (a_1:List Int),(0:Int)=(0:Int)∧IntKind.u64.wrap (r.getD (0:Nat) (0:Int))=a∧List.drop (1:Nat) r=a_1∧z=z∧True) (∃ (a:Int),∃ (a_1:List Int),(0:Int)=(0:Int)∧(0:Int)=a∧r=a_1∧z=z∧True)∧∀ (a:Int) (a_1:List Int),∃ (a_2:Int),∃ (a_3:List Int),∃ (a_4:Int),(IntKind.u64.wrap (IntKind.u64.wrap (↑(BitVec.ofInt (64:Nat) (IntKind.u64.wrap (↑(BitVec.ofInt (64:Nat) (IntKind.u64.wrap (IntKind.u64.wrap (IntKind.u64.wrap (z+a)+(6364136223846793005:Int))*(15074714826142052245:Int))) ^^^ BitVec.ofInt (64:Nat) ((IntKind.u64.wrap (IntKind.u64.wrap (IntKind.u64.wrap (z+a)+(6364136223846793005:Int))*(15074714826142052245:Int))).fdiv (536870912:Int))).toNat:Int)) ^^^ BitVec.ofInt (64:Nat) ((IntKind.u64.wrap (↑(BitVec.ofInt (64:Nat) (IntKind.u64.wrap (IntKind.u64.wrap (IntKind.u64.wrap (z+a)+(6364136223846793005:Int))*(15074714826142052245:Int))) ^^^ BitVec.ofInt (64:Nat) ((IntKind.u64.wrap (IntKind.u64.wrap (IntKind.u64.wrap (z+a)+(6364136223846793005:Int))*(15074714826142052245:Int))).fdiv (536870912:Int))).toNat:Int)).fdiv (8589934592:Int))).toNat:Int)*(18397679294719823053:Int))).fdiv (4294967296:Int)=a_2∧a_1=a_3∧IntKind.u64.wrap (↑(BitVec.ofInt (64:Nat) (IntKind.u64.wrap (IntKind.u64.wrap (IntKind.u64.wrap (z+a)+(6364136223846793005:Int))*(15074714826142052245:Int))) ^^^ BitVec.ofInt (64:Nat) ((IntKind.u64.wrap (IntKind.u64.wrap (IntKind.u64.wrap (z+a)+(6364136223846793005:Int))*(15074714826142052245:Int))).fdiv (536870912:Int))).toNat:Int)=a_4∧(0:Int)≤a_2∧a_2<(4294967296:Int)∧True) (by kernel_rfl) ?_
 simp only[bU,cV,dI,eM,gR,dg,and_true,true_and,eq_self]
 refine⟨⟨fun h=>⟨by omega,by omega,_,_,rfl,rfl⟩,fun h=>⟨_,_,rfl,rfl⟩⟩,fun k r1=>⟨_,_,_,rfl,rfl,rfl,(Ug rfl).1,(Ug rfl).2⟩⟩
def D11:List TV→Dn
 | [.sl (.int .i64) l .no]=>some ([],.res .unk (rI l 1) [],[])
 | _=>none
theorem v11:VN T0 Tryz.f13 [some cB,some (.int .u64)] D11:=by
 intro a p s j h hp
 unfold D11 at h
 split at h<;>cases h
 rename_i l
 refine sP (A:=l=l∧(1:Int)=(1:Int)∧True) (by kernel_rfl) ?_
 exact⟨rfl,rfl,trivial⟩
def D60:List TV→Dn
 | [.agg [.sl (.int .i64) ua .no,.sl (.int .i64) la .no],.agg [.sl (.int .i64) ub .no,.sl (.int .i64) lb .no],.val (.int .i64 s)]=>some ([la.length≤1000,ub.length≤1000,kG la,kG ub],.res (.ee [bp (stA la ub s).1,bp (stA la ub s).2.1,bp (stA la ub s).2.2]) [] [],
  [(6,.ex Nat fun i => .ex Int fun lo => .ex Int fun hi => .ex Int fun m => .st { sl:=[(6,bp lo),(7,bp hi),(8,bp m),(29,bp i)],dX:=[i≤ub.length,0≤m,m≤i,vE (kg la ub s i)=(lo,hi,m)],m:=ub.length-i })])
 | _=>none
theorem v60:VI T0 Tryz.f78 [some bX,some bX,some bX] D60:=by
 intro a p s j h hp
 unfold D60 at h
 split at h<;>cases h
 rename_i ua la ub lb s
 obtain⟨h1,h2,h5,h6,-⟩:=hp
 refine sP (A:=dg (-(↑ub.length:Int))∧aM (decide (s ≤ -(↑ub.length:Int))) ((0:Int)=(stA la ub s).fst∧(0:Int)=(stA la ub s).snd.fst∧(0:Int)=(stA la ub s).snd.snd∧True) (aM (decide (s≥(↑la.length:Int))) ((0:Int)=(stA la ub s).fst∧(0:Int)=(stA la ub s).snd.fst∧(0:Int)=(stA la ub s).snd.snd∧True) ((∃ (a:Nat),∃ (a_1:Int),∃ (a_2:Int),∃ (a_3:Int),(0:Int)=a_1∧(0:Int)=a_2∧(0:Int)=a_3∧(0:Int)=(↑a:Int)∧a≤ub.length∧(0:Int)≤a_3∧a_3≤(↑a:Int)∧vE (kg la ub s a)=(a_1,a_2,a_3)∧ub.length-a<(1000000:Nat))∧∀ (a:Nat) (a_1 a_2 a_3:Int),a≤ub.length→(0:Int)≤a_3→a_3≤(↑a:Int)→vE (kg la ub s a)=(a_1,a_2,a_3)→aM (decide ((↑a:Int)<(↑ub.length:Int))) (((0:Int)≤(↑a:Int)∧(↑a:Int)<(↑ub.length:Int))∧dg ((↑a:Int)+s)∧aM (decide ((↑a:Int)+s<(0:Int))) (dg ((↑a:Int)+(1:Int))∧∃ (a_8:Nat),∃ (a_9:Int),∃ (a_10:Int),∃ (a_11:Int),s=s∧a_1=a_9∧a_2=a_10∧a_3=a_11∧ub=ub∧(↑ub.length:Int)=(↑ub.length:Int)∧(↑a:Int)+(1:Int)=(↑a_8:Int)∧ua=ua∧la=la∧ub=ub∧lb=lb∧a_8≤ub.length∧(0:Int)≤a_11∧a_11≤(↑a_8:Int)∧vE (kg la ub s a_8)=(a_9,a_10,a_11)∧ub.length-a_8<ub.length-a) (aM (decide ((↑a:Int)+s≥(↑la.length:Int))) (dg ((↑a:Int)+(1:Int))∧∃ (a_8:Nat),∃ (a_9:Int),∃ (a_10:Int),∃ (a_11:Int),s=s∧a_1=a_9∧a_2=a_10∧a_3=a_11∧ub=ub∧(↑ub.length:Int)=(↑ub.length:Int)∧(↑a:Int)+(1:Int)=(↑a_8:Int)∧ua=ua∧la=la∧ub=ub∧lb=lb∧a_8≤ub.length∧(0:Int)≤a_11∧a_11≤(↑a_8:Int)∧vE (kg la ub s a_8)=(a_9,a_10,a_11)∧ub.length-a_8<ub.length-a) (((0:Int)≤(↑a:Int)+s∧(↑a:Int)+s<(↑la.length:Int))∧dg (ub.getD a (0:Int)+la.getD ((↑a:Int)+s).toNat (0:Int))∧aM (a_3==(0:Int)) (dg (a_3+(1:Int))∧dg ((↑a:Int)+(1:Int))∧∃ (a_8:Nat),∃ (a_9:Int),∃ (a_10:Int),∃ (a_11:Int),s=s∧(if ub.getD a (0:Int)+la.getD ((↑a:Int)+s).toNat (0:Int)<ub.getD a (0:Int)+la.getD ((↑a:Int)+s).toNat (0:Int) then ub.getD a (0:Int)+la.getD ((↑a:Int)+s).toNat (0:Int) else ub.getD a (0:Int)+la.getD ((↑a:Int)+s).toNat (0:Int))=a_9∧(if ub.getD a (0:Int)+la.getD ((↑a:Int)+s).toNat (0:Int)>ub.getD a (0:Int)+la.getD ((↑a:Int)+s).toNat (0:Int) then ub.getD a (0:Int)+la.getD ((↑a:Int)+s).toNat (0:Int) else ub.getD a (0:Int)+la.getD ((↑a:Int)+s).toNat (0:Int))=a_10∧a_3+(1:Int)=a_11∧ub=ub∧(↑ub.length:Int)=(↑ub.length:Int)∧(↑a:Int)+(1:Int)=(↑a_8:Int)∧ua=ua∧la=la∧ub=ub∧lb=lb∧a_8≤ub.length∧(0:Int)≤a_11∧a_11≤(↑a_8:Int)∧vE (kg la ub s a_8)=(a_9,a_10,a_11)∧ub.length-a_8<ub.length-a) (dg (a_3+(1:Int))∧dg ((↑a:Int)+(1:Int))∧∃ (a_8:Nat),∃ (a_9:Int),∃ (a_10:Int),∃ (a_11:Int),s=s∧(if ub.getD a (0:Int)+la.getD ((↑a:Int)+s).toNat (0:Int)<a_1 then ub.getD a (0:Int)+la.getD ((↑a:Int)+s).toNat (0:Int) else a_1)=a_9∧(if ub.getD a (0:Int)+la.getD ((↑a:Int)+s).toNat (0:Int)>a_2 then ub.getD a (0:Int)+la.getD ((↑a:Int)+s).toNat (0:Int) else a_2)=a_10∧a_3+(1:Int)=a_11∧ub=ub∧(↑ub.length:Int)=(↑ub.length:Int)∧(↑a:Int)+(1:Int)=(↑a_8:Int)∧ua=ua∧la=la∧ub=ub∧lb=lb∧a_8≤ub.length∧(0:Int)≤a_11∧a_11≤(↑a_8:Int)∧vE (kg la ub s a_8)=(a_9,a_10,a_11)∧ub.length-a_8<ub.length-a)))) (a_1=(stA la ub s).fst∧a_2=(stA la ub s).snd.fst∧a_3=(stA la ub s).snd.snd∧True)))) (by kernel_rfl) ?_
 simp only[bU,stA,cV,dI,eM,gR,dg,and_true,true_and,eq_self]
 refine⟨by omega,fun h=>by rw[BG (.inl h)]; exact⟨rfl,rfl,rfl⟩,fun _=>⟨fun h=>by rw[BG (.inr h)]; exact⟨rfl,rfl,rfl⟩,fun h=>⟨⟨0,0,0,0,rfl,rfl,rfl,rfl,by omega,by omega,by omega,rfl,by omega⟩,fun i lo hi m k1 k2 k3 k4=>⟨fun k5=>⟨by omega,by omega,fun k6=>⟨by omega,i+1,lo,hi,m,rfl,rfl,rfl,by omega,by omega,by omega,by omega,by rw[kg,if_neg (by omega)]; exact k4,by omega⟩,fun k6=>⟨fun k7=>⟨by omega,i+1,lo,hi,m,rfl,rfl,rfl,by omega,by omega,by omega,by omega,by rw[kg,if_neg (by omega)]; exact k4,by omega⟩,fun k7 => ?_⟩⟩,fun k5 => ?_⟩⟩⟩⟩
 ·have e1:=Cj h6 (i:=i) (by omega)
  have e2:=Cj h5 (i:=((i:Int)+s).toNat) (by omega)
  exact⟨by omega,by omega,fun k8=>⟨by omega,by omega,i+1,_,_,_,rfl,rfl,rfl,by omega,by omega,by omega,by omega,by rw[kg,if_pos (by omega)]; exact NT k4 k8,by omega⟩,fun k8=>⟨by omega,by omega,i+1,_,_,_,rfl,rfl,rfl,by omega,by omega,by omega,by omega,by rw[kg,if_pos (by omega)]; exact JK k4 k8,by omega⟩⟩
 ·rw[show i=ub.length by omega] at k4
  rw[k4]; exact⟨rfl,rfl,rfl⟩
def T1b:gN:=((T1.mD 58 fun a c=>dS (D81 a c)).QJ 13 fun a=>dS (D11 a)).fR 78 fun a=>dS (D60 a)
def D46:List TV→List TV→Dn
 | [.ptr 0 0,.val (.int .i64 m)],[.sl (.int .i64) _ .no,.val (.int .u64 _)]=>some ([m≤1000,-10000≤m],D9 bp fun k=>[0≤k,k≤m∨k=0],[])
 | _,_=>none
theorem v46:VC T1b Tryz.f15 [some bX] [some cB,some (.int .u64)] D46:=by
 intro a cs p s j h hp
 unfold D46 at h
 split at h<;>cases h
 rename_i m r z
 obtain⟨h1,h2,-⟩:=hp
 refine sP (A:=aM (decide (m≤(0:Int))) (∃ (a:Int),∃ (a_1:List Int),∃ (a_2:Int),(0:Int)=a∧r=a_1∧z=a_2∧(0:Int)≤a∧(a≤m∨a=(0:Int))∧True) (∀ (a:Int) (a_1:List Int) (a_2:Int),(0:Int)≤a→a<(4294967296:Int)→dg (m+(1:Int))∧∃ (a_5:Int),∃ (a_6:List Int),∃ (a_7:Int),IntKind.i64.wrap ((IntKind.u64.wrap (a*IntKind.u64.wrap (m+(1:Int)))).fdiv (4294967296:Int))=a_5∧a_1=a_6∧a_2=a_7∧(0:Int)≤a_5∧(a_5≤m∨a_5=(0:Int))∧True)) (by kernel_rfl) ?_
 simp only[bU,cV,dI,eM,gR,dg,and_true,true_and,eq_self]
 exact⟨fun h=>⟨0,_,_,rfl,rfl,rfl,by omega,by omega⟩,fun h k r1 z1 h3 h4=>⟨by omega,_,_,_,rfl,rfl,rfl,(Tl h1 (by omega) h3 h4).1,(Tl h1 (by omega) h3 h4).2⟩⟩
def D65:List TV→Dn
 | [.agg [.sl (.int .i64) ua .no,.sl (.int .i64) la .no],.agg [.sl (.int .i64) ub .no,.sl (.int .i64) lb .no],.val (.int .i64 w)]=>some ([la.length≤100,ub.length≤100,kG la,kG ub],.res (.sl bX (AB la ub w (ub.length+la.length+1)) .no) [] [],
  [(4,.ex Nat fun k => .st { sl:=[(7,.sl bX (AB la ub w k) (.qA 2)),(8,bp ((k:Int)-(ub.length:Int)))],own:=[(3,1)],dX:=[k≤ub.length+la.length+1],m:=ub.length+la.length+1-k })])
 | _=>none
theorem v65:VI T1b Tryz.f103 [some cB] D65:=by
 intro a p s j h hp
 unfold D65 at h
 split at h<;>cases h
 rename_i ua la ub lb w
 obtain⟨h1,h2,h3,h4,-⟩:=hp
 refine sP (A:=dg (-(↑ub.length:Int))∧(∃ (a:Nat),[]=AB la ub w a ∧ -(↑ub.length:Int)=(↑a:Int)-(↑ub.length:Int)∧a≤ub.length+la.length+(1:Nat)∧ub.length+la.length+(1:Nat)-a<(1000000:Nat))∧∀ (a:Nat),a≤ub.length+la.length+(1:Nat)→aM (decide ((↑a:Int)-(↑ub.length:Int)≤(↑la.length:Int))) (la.length≤(1000:Nat)∧ub.length≤(1000:Nat)∧kG la∧kG ub∧aM (decide ((stA la ub ((↑a:Int)-(↑ub.length:Int))).snd.snd≥(3:Int))) (dg ((stA la ub ((↑a:Int)-(↑ub.length:Int))).snd.fst-(stA la ub ((↑a:Int)-(↑ub.length:Int))).fst)∧aM (decide ((stA la ub ((↑a:Int)-(↑ub.length:Int))).snd.fst-(stA la ub ((↑a:Int)-(↑ub.length:Int))).fst≤w)) ((AB la ub w a).length+(1:Nat)≤(1000000000:Nat)∧dg ((↑a:Int)-(↑ub.length:Int)+(1:Int))∧∃ (a_2:Nat),w=w∧rD bX.den∧AB la ub w a++[(↑a:Int)-(↑ub.length:Int)]=AB la ub w a_2∧(↑a:Int)-(↑ub.length:Int)+(1:Int)=(↑a_2:Int)-(↑ub.length:Int)∧ua=ua∧la=la∧ub=ub∧lb=lb∧a_2≤ub.length+la.length+(1:Nat)∧ub.length+la.length+(1:Nat)-a_2<ub.length+la.length+(1:Nat)-a) (dg ((↑a:Int)-(↑ub.length:Int)+(1:Int))∧∃ (a_2:Nat),w=w∧rD bX.den∧AB la ub w a=AB la ub w a_2∧(↑a:Int)-(↑ub.length:Int)+(1:Int)=(↑a_2:Int)-(↑ub.length:Int)∧ua=ua∧la=la∧ub=ub∧lb=lb∧a_2≤ub.length+la.length+(1:Nat)∧ub.length+la.length+(1:Nat)-a_2<ub.length+la.length+(1:Nat)-a)) (dg ((↑a:Int)-(↑ub.length:Int)+(1:Int))∧∃ (a_2:Nat),w=w∧rD bX.den∧AB la ub w a=AB la ub w a_2∧(↑a:Int)-(↑ub.length:Int)+(1:Int)=(↑a_2:Int)-(↑ub.length:Int)∧ua=ua∧la=la∧ub=ub∧lb=lb∧a_2≤ub.length+la.length+(1:Nat)∧ub.length+la.length+(1:Nat)-a_2<ub.length+la.length+(1:Nat)-a)) (AB la ub w a=AB la ub w (ub.length+la.length+(1:Nat))∧True)) (by kernel_rfl) ?_
 simp only[bU,stA,cV,dI,eM,gR,dg,and_true,true_and,eq_self]
 refine⟨by omega,⟨0,rfl,by omega,by omega,by omega⟩,fun k hk=>⟨fun h=>⟨by omega,by omega,h3,h4,?_⟩,fun h=>by rw[show k=ub.length+la.length+1 by omega]⟩⟩
 have e:=Gb (ub:=ub) ((k:Int)-ub.length) h3 h4
 simp only[stA] at e
 have hl:=Ri la ub w k
 exact⟨fun h5=>⟨by omega,fun h6=>⟨by omega,by omega,k+1,Rh (decide_eq_true ⟨h5,h6⟩),by omega,by omega,by omega⟩,fun h6=>⟨by omega,k+1,MU (decide_eq_false fun e=>h6 e.2),by omega,by omega,by omega⟩⟩,fun h5=>⟨by omega,k+1,MU (decide_eq_false fun e=>h5 e.1),by omega,by omega,by omega⟩⟩
def T2:gN:=(((T1b.mD 15 fun a c=>dS (D46 a c)).fR 81 fun a=>dS (D16 a)).mD 132 fun a c=>dS (We a c)).fR 103 fun a=>dS (D65 a)
def D19:List TV→List TV→Dn
 | [.ptr 0 0,.val (.int .i64 lo),.val (.int .i64 hi)],[.sl (.int .i64) _ .no,.val (.int .u64 _)]=>some ([-1000≤lo,lo≤1000,-1000≤hi,hi≤1000+lo,hi≤5000],D9 bp fun k=>[lo≤k,k≤hi∨k=lo],[])
 | _,_=>none
theorem v19:VC T2 Tryz.f70 [some bX] [some cB,some (.int .u64)] D19:=by
 intro a cs p s j h hp
 unfold D19 at h
 split at h<;>cases h
 rename_i lo hi r z
 obtain⟨h1,h2,h3,h4,h5,-⟩:=hp
 refine sP (A:=dg (hi-lo)∧hi-lo≤(1000:Int)∧(-10000:Int)≤hi-lo∧∀ (a:Int) (a_1:List Int) (a_2:Int),(0:Int)≤a→a≤hi-lo∨a=(0:Int)→dg (lo+a)∧∃ (a_5:Int),∃ (a_6:List Int),∃ (a_7:Int),lo+a=a_5∧a_1=a_6∧a_2=a_7∧lo≤a_5∧(a_5≤hi∨a_5=lo)∧True) (by kernel_rfl) ?_
 simp only[bU,cV,dI,eM,gR,dg,and_true,true_and,eq_self]
 exact⟨by omega,by omega,by omega,fun k r1 z1 h6 h7=>⟨by omega,_,_,_,rfl,rfl,rfl,by omega,by omega⟩⟩
def D27:List TV→List TV→Dn
 | [.ptr 0 0,.val (.int .i64 m)],[.sl (.int .i64) _ .no,.val (.int .u64 _)]=>some ([m≤1000,0≤m],.ex Bool fun b=>D9 (fun _=>nu b) fun _=>[],[])
 | _,_=>none
theorem v27:VC T2 Tryz.f67 [some .bool] [some cB,some (.int .u64)] D27:=by
 intro a cs p s j h hp
 unfold D27 at h
 split at h<;>cases h
 rename_i m r z
 obtain⟨h1,h2,-⟩:=hp
 refine sP (A:=dg (m-(1:Int))∧m-(1:Int)≤(1000:Int)∧(-10000:Int)≤m-(1:Int)∧∀ (a:Int) (a_1:List Int) (a_2:Int),(0:Int)≤a→a≤m-(1:Int)∨a=(0:Int)→∃ (a_5:Bool),∃ (a_6:Int),∃ (a_7:List Int),∃ (a_8:Int),(a==IntKind.i64.wrap (m.tdiv (2:Int)))=a_5∧a_1=a_7∧a_2=a_8∧True) (by kernel_rfl) ?_
 simp only[bU,cV,dI,eM,gR,dg,and_true,true_and,eq_self]
 exact⟨by omega,by omega,by omega,fun k r1 z1 _ _=>⟨_,0,_,_,rfl,rfl,rfl⟩⟩
def D45:List TV→List TV→Dn
 | [.ptr 0 0,.sl (.int .i64) l .no],[.sl (.int .i64) _ .no,.val (.int .u64 _)]=>some ([0<l.length,l.length≤1000],D9 bp fun k=>[k∈l],[])
 | _,_=>none
theorem v45:VC T2 Tryz.f69 [some bX] [some cB,some (.int .u64)] D45:=by
 intro a cs p s j h hp
 unfold D45 at h
 split at h<;>cases h
 rename_i l r z
 obtain⟨h1,h2,-⟩:=hp
 refine sP (A:=dg ((↑l.length:Int)-(1:Int))∧(↑l.length:Int)-(1:Int)≤(1000:Int)∧(-10000:Int)≤(↑l.length:Int)-(1:Int)∧∀ (a:Int) (a_1:List Int) (a_2:Int),(0:Int)≤a→a≤(↑l.length:Int)-(1:Int)∨a=(0:Int)→((0:Int)≤a∧a<(↑l.length:Int))∧∃ (a_5:Int),∃ (a_6:List Int),∃ (a_7:Int),l.getD a.toNat (0:Int)=a_5∧a_1=a_6∧a_2=a_7∧a_5∈l∧True) (by kernel_rfl) ?_
 simp only[bU,cV,dI,eM,gR,dg,and_true,true_and,eq_self]
 exact⟨by omega,by omega,by omega,fun k r1 z1 h3 h4=>⟨by omega,_,_,_,rfl,rfl,rfl,iU (by omega)⟩⟩
def D96:List TV→List TV→Dn
 | [.sl (.int .i64) l .no,.fn 121 [] [.ptr 0 0]],[.val (.int .i64 cM)]=>some ([l.length≤1000],.res (nu (!l.all (ox cM))) [bp cM] [],[])
 | _,_=>none
theorem v96:VC T2 Tryz.f120 [some .bool] [some bX] D96:=by
 intro a cs p s j h hp
 unfold D96 at h
 split at h<;>cases h
 rename_i l cM
 have h1:=hp.1
 refine sP (A:=l.length≤(1000:Nat)∧∀ (a:Int),(if l.all (ox cM)=true then a=(-1:Int) else (0:Int)≤a)→decide (a≥(0:Int)) = !l.all (ox cM)∧cM=cM∧True) (by kernel_rfl) ?_
 simp only[bU,cV,dI,eM,gR,dg,and_true,true_and,eq_self]
 refine⟨h1,fun k hk => ?_⟩
 cases hl:l.all (ox cM)<;>simp[hl] at hk ⊢<;>omega
def T3:gN:=(((T2.mD 70 fun a c=>dS (D19 a c)).mD 67 fun a c=>dS (D27 a c)).mD 69 fun a c=>dS (D45 a c)).mD 120 fun a c=>dS (D96 a c)
def D44:List TV→List TV→Dn
 | [.ptr 0 0,.val (.int .i64 c)],[.sl (.int .i64) _ .no,.val (.int .u64 _)]=>some ([0≤c,c≤100],.ex (List Int) fun o => .ex (List Int) fun r => .ex Int fun z => .res (.sl bX o .no) (rI r z) [(o.length:Int)=c,kG o],
  [(5,.ex Nat fun i => .ex (List Int) fun o => .ex (List Int) fun r => .ex Int fun z => .st { sl:=[(6,.sl bX o (.qA 1)),(7,bp i)],pl:=[(0,rI r z)],own:=[(3,1)],dX:=[(i:Int)≤c,o.length=i,kG o],m:=c.toNat-i })])
 | _,_=>none
theorem v44:VC T3 Tryz.f87 [some cB] [some cB,some (.int .u64)] D44:=by
 intro a cs p s j h hp
 unfold D44 at h
 split at h<;>cases h
 rename_i c r z
 obtain⟨h1,h2,-⟩:=hp
 refine sP (A:=(7:Int)≤(1000:Int)∧(-10000:Int)≤(7:Int)∧∀ (a:Int) (a_1:List Int) (a_2:Int),(0:Int)≤a→a≤(7:Int)∨a=(0:Int)→(0:Nat)<(3:Nat)∧(3:Nat)≤(1000:Nat)∧∀ (a_5:Int) (a_6:List Int) (a_7:Int),a_5∈[(0:Int),(2:Int),a]→(∃ (a:Nat),∃ (a_8:List Int),∃ (a_9:List Int),∃ (a_10:Int),[]=a_8∧(0:Int)=(↑a:Int)∧a_6=a_9∧a_7=a_10∧(↑a:Int)≤c∧a_8.length=a∧kG a_8∧c.toNat-a<(1000000:Nat))∧∀ (a:Nat) (a_8 a_9:List Int) (a_10:Int),(↑a:Int)≤c→a_8.length=a→kG a_8→aM (decide ((↑a:Int)<c)) ((0:Nat)<(4:Nat)∧(4:Nat)≤(1000:Nat)∧∀ (a_14:Int) (a_15:List Int) (a_16:Int),a_14∈[(0:Int),(0:Int),(1:Int),(2:Int)]→dg (a_5+a_14)∧a_8.length+(1:Nat)≤(1000000000:Nat)∧dg ((↑a:Int)+(1:Int))∧∃ (a_18:Nat),∃ (a_19:List Int),∃ (a_20:List Int),∃ (a_21:Int),c=c∧rD bX.den∧a_5=a_5∧a_8++[a_5+a_14]=a_19∧(↑a:Int)+(1:Int)=(↑a_18:Int)∧a_15=a_20∧a_16=a_21∧(↑a_18:Int)≤c∧a_19.length=a_18∧kG a_19∧c.toNat-a_18<c.toNat-a) (∃ (a:List Int),∃ (a_14:List Int),∃ (a_15:Int),a_8=a∧a_9=a_14∧a_10=a_15∧(↑a.length:Int)=c∧kG a∧True)) (by kernel_rfl) ?_
 simp only[bU,cV,dI,eM,gR,dg,and_true,true_and,eq_self]
 refine⟨by omega,by omega,fun k1 r1 z1 h3 h4=>⟨by omega,by omega,fun k2 r2 z2 h5 => ?_⟩⟩
 have h6:0≤k2∧k2≤7:=by simp at h5; omega
 refine⟨⟨0,[],r2,z2,rfl,rfl,rfl,rfl,h1,rfl,by simp[kG],by omega⟩,fun i o r3 z3 h6 h7 h8=>⟨fun h9=>⟨by omega,by omega,fun k4 r4 z4 qZ => ?_⟩,fun h9=>⟨_,_,_,rfl,rfl,rfl,by omega,h8⟩⟩⟩
 have z7:0≤k4∧k4≤2:=by simp at qZ; omega
 exact⟨by omega,by omega,by omega,i+1,_,_,_,rfl,by omega,rfl,rfl,by omega,by simp[h7],E7 h8 (by omega),by omega⟩
def D47:List TV→List TV→Dn
 | [.ptr 0 0],[.sl (.int .i64) _ .no,.val (.int .u64 _)]=>some ([],.ex (List Int) fun o => .ex (List Int) fun r => .ex Int fun z => .res (.sl bX o .no) (rI r z) [o≠[],∀ x∈o,0≤x∧x≤3,o.Pairwise (· < ·)],
  [(4,.ex Nat fun i => .ex (List Int) fun o => .ex (List Int) fun r => .ex Int fun z => .st { sl:=[(3,.sl bX o (.qA 1)),(4,bp i)],pl:=[(0,rI r z)],own:=[(3,1)],dX:=[i≤4,o.length≤i,∀ x∈o,0≤x∧x<i,o.Pairwise (· < ·)],m:=4-i })])
 | _,_=>none
theorem v47:VC T3 Tryz.f88 [some cB] [some cB,some (.int .u64)] D47:=by
 intro a cs p s j h hp
 unfold D47 at h
 split at h<;>cases h
 rename_i r z
 refine sP (A:=(∃ (a:Nat),∃ (a_1:List Int),∃ (a_2:List Int),∃ (a_3:Int),[]=a_1∧(0:Int)=(↑a:Int)∧r=a_2∧z=a_3∧a≤(4:Nat)∧a_1.length≤a∧(∀ (x:Int),x∈a_1→(0:Int)≤x∧x<(↑a:Int))∧List.Pairwise (fun(x1 x2:Int)=>x1<x2) a_1∧(4:Nat)-a<(1000000:Nat))∧∀ (a:Nat) (a_1 a_2:List Int) (a_3:Int),a≤(4:Nat)→a_1.length≤a→(∀ (x:Int),x∈a_1→(0:Int)≤x∧x<(↑a:Int))→List.Pairwise (fun(x1 x2:Int)=>x1<x2) a_1→aM (decide ((↑a:Int)≤(3:Int))) ((2:Int)≤(1000:Int)∧(0:Int)≤(2:Int)∧∀ (a_8:Bool) (a_9:Int) (a_10:List Int) (a_11:Int),aM a_8 (a_1.length+(1:Nat)≤(1000000000:Nat)∧dg ((↑a:Int)+(1:Int))∧∃ (a_12:Nat),∃ (a_13:List Int),∃ (a_14:List Int),∃ (a_15:Int),rD bX.den∧a_1++[(↑a:Int)]=a_13∧(↑a:Int)+(1:Int)=(↑a_12:Int)∧a_10=a_14∧a_11=a_15∧a_12≤(4:Nat)∧a_13.length≤a_12∧(∀ (x:Int),x∈a_13→(0:Int)≤x∧x<(↑a_12:Int))∧List.Pairwise (fun(x1 x2:Int)=>x1<x2) a_13∧(4:Nat)-a_12<(4:Nat)-a) (dg ((↑a:Int)+(1:Int))∧∃ (a_12:Nat),∃ (a_13:List Int),∃ (a_14:List Int),∃ (a_15:Int),rD bX.den∧a_1=a_13∧(↑a:Int)+(1:Int)=(↑a_12:Int)∧a_10=a_14∧a_11=a_15∧a_12≤(4:Nat)∧a_13.length≤a_12∧(∀ (x:Int),x∈a_13→(0:Int)≤x∧x<(↑a_12:Int))∧List.Pairwise (fun(x1 x2:Int)=>x1<x2) a_13∧(4:Nat)-a_12<(4:Nat)-a)) (aM ((↑a_1.length:Int)==(0:Int)) ((3:Int)≤(1000:Int)∧(-10000:Int)≤(3:Int)∧∀ (a:Int) (a_8:List Int) (a_9:Int),(0:Int)≤a→a≤(3:Int)∨a=(0:Int)→∃ (a_12:List Int),∃ (a_13:List Int),∃ (a_14:Int),[a]=a_12∧a_8=a_13∧a_9=a_14∧a_12≠[]∧(∀ (x:Int),x∈a_12→(0:Int)≤x∧x≤(3:Int))∧List.Pairwise (fun(x1 x2:Int)=>x1<x2) a_12∧True) (∃ (a:List Int),∃ (a_8:List Int),∃ (a_9:Int),a_1=a∧a_2=a_8∧a_3=a_9∧a≠[]∧(∀ (x:Int),x∈a→(0:Int)≤x∧x≤(3:Int))∧List.Pairwise (fun(x1 x2:Int)=>x1<x2) a∧True))) (by kernel_rfl) ?_
 simp only[bU,cV,dI,eM,gR,dg,and_true,true_and,eq_self]
 refine⟨⟨0,[],_,_,rfl,rfl,rfl,rfl,by omega,by simp,by simp,by simp,by omega⟩,fun i o r1 z1 h1 h2 h3 h4=>⟨fun h5=>⟨by omega,by omega,fun b _ r2 z2 => ?_⟩,fun h5=>⟨fun h6=>⟨by omega,by omega,fun k r2 z2 h7 h8=>⟨_,_,_,rfl,rfl,rfl,by simp,by simp; omega,by simp⟩⟩,fun h6=>⟨_,_,_,rfl,rfl,rfl,fun e=>h6 (by rw[e]; rfl),fun x hx=>by have:=h3 x hx; omega,h4⟩⟩⟩⟩
 rw[nv]
 exact⟨fun _=>⟨by omega,by omega,i+1,_,_,_,rfl,by omega,rfl,rfl,by omega,by simp; omega,E7 (fun x hx=>by have:=h3 x hx; omega) (by omega),Ph h4 (fun x hx=>(h3 x hx).2),by omega⟩,fun _=>⟨by omega,i+1,_,_,_,rfl,by omega,rfl,rfl,by omega,by omega,fun x hx=>by have:=h3 x hx; omega,h4,by omega⟩⟩
def D78:List TV→Dn
 | [.sl (.int .i64) l .no,.val (.int .i64 cM)]=>some ([l.length≤1000],.res (nu (l.all (ox cM))) [] [],[])
 | _=>none
theorem v78:VI T3 Tryz.f90 [some .bool] D78:=by
 intro a p s j h hp
 unfold D78 at h
 split at h<;>cases h
 rename_i l cM
 have h1:=hp.1
 refine sP (A:=l.length≤(1000:Nat)∧(!!l.all (ox cM))=l.all (ox cM)∧True) (by kernel_rfl) ?_
 exact⟨h1,Bool.not_not _,trivial⟩
def T4:gN:=((T3.mD 87 fun a c=>dS (D44 a c)).mD 88 fun a c=>dS (D47 a c)).fR 90 fun a=>dS (D78 a)
section
variable {aZ:bn} (tk:oF aZ)
include tk
theorem Me:lE aZ 1 T1b:=wO tk (iM tk) (by decide) Tryz.func78 rfl v60 (mkN tk (iM tk) (by decide) Tryz.func13 rfl v11 (De (iM tk) Tryz.func58 rfl v81 (Vd tk)))
theorem BU:lE aZ 2 T2:=wO tk (Me tk) (by decide) Tryz.func103 rfl v65 (De (Vd tk) Tryz.func132 rfl v109 (wO tk (Vd tk) (by decide) Tryz.func81 rfl v16 (De (Me tk) Tryz.func15 rfl v46 (gU (Me tk)))))
theorem LM:lE aZ 3 T3:=De (BU tk) Tryz.func120 rfl v96 (De (BU tk) Tryz.func69 rfl v45 (De (BU tk) Tryz.func67 rfl v27 (De (BU tk) Tryz.func70 rfl v19 (gU (BU tk)))))
theorem Qh:lE aZ 4 T4:=wO tk (LM tk) (by decide) Tryz.func90 rfl v78 (De (LM tk) Tryz.func88 rfl v47 (De (LM tk) Tryz.func87 rfl v44 (gU (LM tk))))
end
end Go.Tv
end
section
namespace Go.Tv
open Go Go.Di Go.Proofs
set_option maxRecDepth 100000
abbrev pcS (f : List Int → List Int → Int → List Int → List Prop) : q9 := .ex (List Int) fun u => .ex (List Int) fun l => .ex Int fun w => .ex (List Int) fun ls => .ex (List Int) fun r => .ex Int fun z => .res (Uz u l w ls) (rI r z) (f u l w ls)
def D12 : List TV → List TV → Dn
 | [.ptr 0 0, .val (.int .i64 c)], [.sl (.int .i64) _ .no, .val (.int .u64 _)] => some ([3 ≤ c, c ≤ 8], pcS fun u l w ls => [Ok u l w ls, (u.length : Int) ≤ c], [])
 | _, _ => none
theorem v12 : VC T4 Tryz.f39 [some aU] [some cB, some (.int .u64)] D12 := by
 intro a cs p s j h hp
 unfold D12 at h
 split at h <;> cases h
 rename_i c r z
 obtain ⟨h1, h2, -⟩ := hp
 refine sP (A := (-1000 : Int) ≤ (3 : Int) ∧ (3 : Int) ≤ (1000 : Int) ∧ (-1000 : Int) ≤ c ∧ c ≤ (1003 : Int) ∧ c ≤ (5000 : Int) ∧ ∀ (a : Int) (a_1 : List Int) (a_2 : Int), (3 : Int) ≤ a → a ≤ c ∨ a = (3 : Int) → (0 : Int) ≤ a ∧ a ≤ (100 : Int) ∧ ∀ (a_5 a_6 : List Int) (a_7 : Int), (↑a_5.length : Int) = a → kG a_5 → (0 : Int) ≤ a ∧ a ≤ (100 : Int) ∧ ∀ (a_10 a_11 : List Int) (a_12 : Int), (↑a_10.length : Int) = a → kG a_10 → (2 : Int) ≤ (1000 : Int) ∧ (-10000 : Int) ≤ (2 : Int) ∧ ∀ (a : Int) (a_13 : List Int) (a_14 : Int), (0 : Int) ≤ a → a ≤ (2 : Int) ∨ a = (0 : Int) → (0 : Nat) < (4 : Nat) ∧ (4 : Nat) ≤ (1000 : Nat) ∧ ∀ (a_17 : Int) (a_18 : List Int) (a_19 : Int), a_17 ∈ [(0 : Int), (0 : Int), (1 : Int), a] → ∀ (a a_20 : List Int) (a_21 : Int), a ≠ [] → (∀ (x : Int), x ∈ a → (0 : Int) ≤ x ∧ x ≤ (3 : Int)) → List.Pairwise (fun (x1 x2 : Int) => x1 < x2) a → ∃ (a_25 : List Int), ∃ (a_26 : List Int), ∃ (a_27 : Int), ∃ (a_28 : List Int), ∃ (a_29 : List Int), ∃ (a_30 : Int), a_5 = a_25 ∧ a_10 = a_26 ∧ a_17 = a_27 ∧ a = a_28 ∧ a_20 = a_29 ∧ a_21 = a_30 ∧ Ok a_25 a_26 a_27 a_28 ∧ (↑a_25.length : Int) ≤ c ∧ True) (by kernel_rfl) ?_
 simp only [bU, cV, dI, eM, gR, dg, and_true, true_and, eq_self]
 refine ⟨by omega, by omega, by omega, by omega, by omega, fun n r1 z1 h3 h4 => ⟨by omega, by omega, fun u r2 z2 h5 h6 => ⟨by omega, by omega, fun l r3 z3 h7 h8 => ⟨by omega, by omega, fun k r4 z4 h9 qZ => ⟨by omega, by omega, fun w r5 z5 z7 ls r6 z6 Lg Tf Y0 => ?_⟩⟩⟩⟩⟩
 have Qb : 0 ≤ w ∧ w ≤ 2 := by simp at z7; omega
 exact ⟨u, l, w, ls, r6, z6, rfl, rfl, rfl, rfl, rfl, rfl, ⟨by omega, by omega, by omega, h6, h8, Qb.1, Qb.2, Lg, Tf, Y0⟩, by omega⟩
def D77 : List TV → Dn
 | [.agg [.sl (.int .i64) u .no, .sl (.int .i64) l .no, .val (.int .i64 w), .sl (.int .i64) ls .no]] => some ([Sh u l ls], .res (bp (nY u l w ls)) [] [],
  [(3, .un 3), (19, .ex Nat fun i => .st { sl := [(71, bp i)], dX := [i ≤ ls.length, j9 ls 0 = j9 ls i], m := ls.length - i })])
 | _ => none
set_option maxHeartbeats 1000000 in
theorem v77 : VI T4 Tryz.f89 [some bX] D77 := by
 intro a p s j h hp
 unfold D77 at h
 split at h <;> cases h
 rename_i u l w ls
 change List Int at u l ls
 obtain ⟨h1, h2, h3⟩ := hp.1
 refine sP (A := ((0 : Int) ≤ (0 : Int) ∧ (0 : Int) < (↑(2 : Nat) : Int)) ∧ aM (decide ((↑u.length : Int) < (3 : Int))) ((7 : Int) = nY u l w ls ∧ True) (aM (decide ((↑u.length : Int) < (↑u.length : Int))) ((7 : Int) = nY u l w ls ∧ True) (aM (decide ((↑u.length : Int) > (8 : Int))) ((6 : Int) = nY u l w ls ∧ True) (aM (decide ((↑u.length : Int) > (↑u.length : Int))) ((6 : Int) = nY u l w ls ∧ True) (dg (1 : Int) ∧ ((0 : Int) ≤ (1 : Int) ∧ (1 : Int) < (↑(2 : Nat) : Int)) ∧ aM (decide ((↑l.length : Int) < (3 : Int))) ((7 : Int) = nY u l w ls ∧ True) (aM (decide ((↑l.length : Int) < (↑u.length : Int))) ((7 : Int) = nY u l w ls ∧ True) (aM (decide ((↑l.length : Int) > (8 : Int))) ((6 : Int) = nY u l w ls ∧ True) (aM (decide ((↑l.length : Int) > (↑u.length : Int))) ((6 : Int) = nY u l w ls ∧ True) (dg (2 : Int) ∧ u.length ≤ (1000 : Nat) ∧ aM (!u.all (ox (9 : Int))) ((1 : Int) = nY u l w ls ∧ True) (l.length ≤ (1000 : Nat) ∧ aM (!l.all (ox (9 : Int))) ((1 : Int) = nY u l w ls ∧ True) (aM (decide (w < (0 : Int))) ((1 : Int) = nY u l w ls ∧ True) (aM (decide (w > (2 : Int))) ((1 : Int) = nY u l w ls ∧ True) (aM ((↑ls.length : Int) == (0 : Int)) ((7 : Int) = nY u l w ls ∧ True) ((∃ (a : Nat), (0 : Int) = (↑a : Int) ∧ a ≤ ls.length ∧ j9 ls (0 : Nat) = j9 ls a ∧ ls.length - a < (1000000 : Nat)) ∧ ∀ (a : Nat), a ≤ ls.length → j9 ls (0 : Nat) = j9 ls a → aM (decide ((↑a : Int) < (↑ls.length : Int))) (((0 : Int) ≤ (↑a : Int) ∧ (↑a : Int) < (↑ls.length : Int)) ∧ aM (decide (ls.getD a (0 : Int) < (0 : Int))) ((8 : Int) = nY u l w ls ∧ True) (aM (decide (ls.getD a (0 : Int) > (3 : Int))) ((8 : Int) = nY u l w ls ∧ True) (aM (decide ((↑a : Int) > (0 : Int))) (dg ((↑a : Int) - (1 : Int)) ∧ ((0 : Int) ≤ (↑a : Int) - (1 : Int) ∧ (↑a : Int) - (1 : Int) < (↑ls.length : Int)) ∧ aM (decide (ls.getD a (0 : Int) ≤ ls.getD ((↑a : Int) - (1 : Int)).toNat (0 : Int))) ((5 : Int) = nY u l w ls ∧ True) (dg ((↑a : Int) + (1 : Int)) ∧ ∃ (a_3 : Nat), ls = ls ∧ (↑ls.length : Int) = (↑ls.length : Int) ∧ (↑a : Int) + (1 : Int) = (↑a_3 : Int) ∧ u = u ∧ l = l ∧ w = w ∧ ls = ls ∧ a_3 ≤ ls.length ∧ j9 ls (0 : Nat) = j9 ls a_3 ∧ ls.length - a_3 < ls.length - a)) (dg ((↑a : Int) + (1 : Int)) ∧ ∃ (a_3 : Nat), ls = ls ∧ (↑ls.length : Int) = (↑ls.length : Int) ∧ (↑a : Int) + (1 : Int) = (↑a_3 : Int) ∧ u = u ∧ l = l ∧ w = w ∧ ls = ls ∧ a_3 ≤ ls.length ∧ j9 ls (0 : Nat) = j9 ls a_3 ∧ ls.length - a_3 < ls.length - a)))) ((0 : Int) = nY u l w ls ∧ True))))))))))))))) (by kernel_rfl) ?_
 simp only [bU, cV, dI, eM, gR, dg, and_true, true_and, eq_self]
 refine ⟨by omega, fun a1 => ?_, fun a1 => ⟨fun a2 => by omega, fun _ => ⟨fun a3 => ?_, fun a3 => ⟨fun _ => by omega, fun _ => ⟨by omega, by omega, fun a4 => ?_, fun a4 => ⟨fun a5 => ?_, fun a5 => ⟨fun a6 => ?_, fun a6 => ⟨fun a7 => ?_, fun a7 => ⟨by omega, by omega, ?_⟩⟩⟩⟩⟩⟩⟩⟩⟩
 ·rw [nY, if_pos (by omega)]
 ·rw [nY, if_neg (by omega), if_pos (by omega)]
 ·rw [nY, if_neg (by omega), if_neg (by omega), if_pos (by omega)]
 ·rw [nY, if_neg (by omega), if_neg (by omega), if_pos (by omega)]
 ·rw [nY, if_neg (by omega), if_neg (by omega), if_neg (by omega), if_pos (by omega)]
 ·rw [nY, if_neg (by omega), if_neg (by omega), if_neg (by omega), if_pos (by omega)]
 have e1 : ∀ (_ : u.all (ox 9) = false ∨ l.all (ox 9) = false ∨ w < 0 ∨ 2 < w), 1 = nY u l w ls := fun h => by rw [nY, if_neg (by omega), if_neg (by omega), if_neg (by omega), if_neg (by omega), if_pos h]
 rw [nv]
 refine ⟨fun b1 => ⟨by omega, ?_⟩, fun b1 => e1 (.inl b1)⟩
 rw [nv]
 refine ⟨fun b2 => ⟨fun b3 => e1 (.inr (.inr (.inl b3))), fun b3 => ⟨fun b4 => e1 (.inr (.inr (.inr b4))), fun b4 => ⟨fun b5 => ?_, fun b5 => ?_⟩⟩⟩, fun b2 => e1 (.inr (.inl b2))⟩
 ·rw [nY, if_neg (by omega), if_neg (by omega), if_neg (by omega), if_neg (by omega), if_neg (by rw [b1, b2]; simp; omega), if_pos (by omega)]
 have e : nY u l w ls = j9 ls 0 := Su (by omega) (by omega) (by omega) (by omega) (by rw [b1]; rfl) (by rw [b2]; rfl) (by omega) (by omega) (by omega)
 rw [e]
 refine ⟨⟨0, rfl, by omega, rfl, by omega⟩, fun i k1 k2 => ⟨fun k3 => ⟨by omega, fun k4 => ?_, fun k4 => ⟨fun k5 => ?_, fun k5 => ⟨fun k6 => ⟨by omega, by omega, fun k7 => ?_, fun k7 => ⟨by omega, i + 1, by omega, by omega, k2.trans (yN (by omega) (by omega) ?_), by omega⟩⟩, fun k6 => ⟨by omega, i + 1, by omega, by omega, k2.trans (yN (by omega) (by omega) (by omega)), by omega⟩⟩⟩⟩, fun k3 => ?_⟩⟩
 ·rw [k2, Mp (by omega) (.inl k4)]
 ·rw [k2, Mp (by omega) (.inr (by omega))]
 ·rw [k2, TQ (by omega) (by omega) ⟨by omega, by rw [show i - 1 = ((i : Int) - 1).toNat by omega]; exact k7⟩]
 ·rw [show i - 1 = ((i : Int) - 1).toNat by omega]; exact fun h => k7 h.2
 ·rw [k2, TS (by omega)]
def T5 : gN := (T4.mD 39 fun a c => dS (D12 a c)).fR 89 fun a => dS (D77 a)
def D13 : List TV → List TV → Dn
 | [.ptr 0 0, .agg [.sl (.int .i64) u .no, .sl (.int .i64) l .no, .val (.int .i64 w), .sl (.int .i64) ls .no]], [.sl (.int .i64) _ .no, .val (.int .u64 _)] => some ([Ok u l w ls], pcS fun u1 l1 w1 XJ => [Ok u1 l1 w1 XJ, u1 = l.map (9 - ·)],
  [(5, .ex (List Int) fun u1 => .ex (List Int) fun l1 => .ex Int fun w1 => .ex (List Int) fun XJ => .ex (List Int) fun r => .ex Int fun z => .ex Nat fun i => .st { sl := [(6, bp i)], pl := [(0, rI r z), (3, [.sl bX ((l.take i).map (9 - ·)) (.qA 4), .sl bX l1 .no, bp w1, .sl bX XJ .no])], own := [(3, 1)], dX := [i ≤ l.length, Ok u1 l1 w1 XJ, l1.length = l.length], m := l.length - i })])
 | _, _ => none
theorem v13 : VC T5 Tryz.f40 [some aU] [some cB, some (.int .u64)] D13 := by
 intro a cs p s j h hp
 unfold D13 at h
 split at h <;> cases h
 rename_i u l w ls r z
 have h1 := hp.1
 refine sP (A := (3 : Int) ≤ (↑u.length : Int) ∧ (↑u.length : Int) ≤ (8 : Int) ∧ ∀ (a a_1 : List Int) (a_2 : Int) (a_3 a_4 : List Int) (a_5 : Int), Ok a a_1 a_2 a_3 → (↑a.length : Int) ≤ (↑u.length : Int) → (0 : Int) ≤ (↑u.length : Int) ∧ (↑u.length : Int) ≤ (100 : Int) ∧ ∀ (a a_7 : List Int) (a_8 : Int), (↑a.length : Int) = (↑u.length : Int) → kG a → (∃ (a_11 : List Int), ∃ (a_12 : List Int), ∃ (a_13 : Int), ∃ (a_14 : List Int), ∃ (a_15 : List Int), ∃ (a_16 : Int), ∃ (a_17 : Nat), (0 : Int) = (↑a_17 : Int) ∧ a_7 = a_15 ∧ a_8 = a_16 ∧ [] = List.map (fun (x : bX.den) => (9 : bX.den) - x) (List.take a_17 l) ∧ a = a_12 ∧ a_2 = a_13 ∧ a_3 = a_14 ∧ a_17 ≤ l.length ∧ Ok a_11 a_12 a_13 a_14 ∧ a_12.length = l.length ∧ l.length - a_17 < (1000000 : Nat)) ∧ ∀ (a a_11 : List Int) (a_12 : Int) (a_13 a_14 : List Int) (a_15 : Int) (a_16 : Nat), a_16 ≤ l.length → Ok a a_11 a_12 a_13 → a_11.length = l.length → aM (decide ((↑a_16 : Int) < (↑l.length : Int))) (((0 : Int) ≤ (↑a_16 : Int) ∧ (↑a_16 : Int) < (↑l.length : Int)) ∧ dg ((9 : Int) - l.getD a_16 (0 : Int)) ∧ (List.map (fun (x : bX.den) => (9 : bX.den) - x) (List.take a_16 l)).length + (1 : Nat) ≤ (1000000000 : Nat) ∧ dg ((↑a_16 : Int) + (1 : Int)) ∧ ∃ (a : List Int), ∃ (a_18 : List Int), ∃ (a_19 : Int), ∃ (a_20 : List Int), ∃ (a_21 : List Int), ∃ (a_22 : Int), ∃ (a_23 : Nat), (↑a_16 : Int) + (1 : Int) = (↑a_23 : Int) ∧ a_14 = a_21 ∧ a_15 = a_22 ∧ u = u ∧ l = l ∧ w = w ∧ ls = ls ∧ (0 : Int) = (0 : Int) ∧ List.map (fun (x : bX.den) => (9 : bX.den) - x) (List.take a_16 l) ++ [(9 : Int) - l.getD a_16 (0 : Int)] = List.map (fun (x : bX.den) => (9 : bX.den) - x) (List.take a_23 l) ∧ a_11 = a_18 ∧ a_12 = a_19 ∧ a_13 = a_20 ∧ a_23 ≤ l.length ∧ Ok a a_18 a_19 a_20 ∧ a_18.length = l.length ∧ l.length - a_23 < l.length - a_16) (∃ (a : List Int), ∃ (a_18 : List Int), ∃ (a_19 : Int), ∃ (a_20 : List Int), ∃ (a_21 : List Int), ∃ (a_22 : Int), List.map (fun (x : bX.den) => (9 : bX.den) - x) (List.take a_16 l) = a ∧ a_11 = a_18 ∧ a_12 = a_19 ∧ a_13 = a_20 ∧ a_14 = a_21 ∧ a_15 = a_22 ∧ Ok a a_18 a_19 a_20 ∧ a = List.map (fun (x : bX.den) => (9 : bX.den) - x) l ∧ True)) (by kernel_rfl) ?_
 simp only [bU, cV, dI, eM, gR, dg, and_true, true_and, eq_self]
 have := h1.n3
 have := h1.n8
 have := h1.len
 refine ⟨by omega, by omega, fun u1 l1 w1 XJ r1 z1 h2 h3 => ⟨by omega, by omega, fun o r2 z2 h4 h5 => ⟨⟨o, o, w1, XJ, r2, z2, 0, rfl, rfl, rfl, rfl, rfl, rfl, rfl, by omega, ⟨by omega, by omega, rfl, h5, h5, h2.w0, h2.w2, h2.ne, h2.Ad, h2.U5⟩, by omega, by omega⟩, fun u3 o w ls r3 z3 i h6 h7 h8 => ⟨fun h9 => ?_, fun h9 => ?_⟩⟩⟩⟩
 ·have := h1.hl _ (iU (l := l) (i := i) (by omega))
  exact ⟨by omega, by omega, by simp; omega, by omega, u3, o, w, ls, r3, z3, i + 1, by omega, rfl, rfl, Ax (f := fun x => 9 - x) (by omega), rfl, rfl, rfl, by omega, h7, h8, by omega⟩
 ·rw [show i = l.length by omega, List.take_length]
  exact ⟨_, o, w, ls, r3, z3, rfl, rfl, rfl, rfl, rfl, rfl, OC h7 h8 h1.hl, rfl⟩
def D59 : List TV → Dn
 | [.sl (.pair (.sl (.int .i64)) (.pair (.sl (.int .i64)) (.pair (.int .i64) (.pair (.sl (.int .i64)) .unit)))) l .no] => some ([l.length ≤ 1000, ∀ p ∈ l, ny p], .res (bp (fP l)) [] [],
  [(3, .ex Nat fun i => .st { sl := [(8, bp i)], dX := [i ≤ l.length, fP (l.take i) = 0], m := l.length - i })])
 | _ => none
theorem v59 : VI T5 Tryz.f94 [some bX] D59 := by
 intro a p s j h hp
 unfold D59 at h
 split at h <;> cases h
 rename_i l
 obtain ⟨h1, h2, -⟩ := hp
 refine sP (A := (∃ (a : Nat), (0 : Int) = (↑a : Int) ∧ a ≤ l.length ∧ fP (List.take a l) = (0 : Int) ∧ l.length - a < (1000000 : Nat)) ∧ ∀ (a : Nat), a ≤ l.length → fP (List.take a l) = (0 : Int) → aM (decide ((↑a : Int) < (↑l.length : Int))) (((0 : Int) ≤ (↑a : Int) ∧ (↑a : Int) < (↑l.length : Int)) ∧ Sh (l.getD a ([], [], (0 : Int), [], ())).fst (l.getD a ([], [], (0 : Int), [], ())).snd.fst (l.getD a ([], [], (0 : Int), [], ())).snd.snd.snd.fst ∧ aM (nY (l.getD a ([], [], (0 : Int), [], ())).fst (l.getD a ([], [], (0 : Int), [], ())).snd.fst (l.getD a ([], [], (0 : Int), [], ())).snd.snd.fst (l.getD a ([], [], (0 : Int), [], ())).snd.snd.snd.fst != (0 : Int)) (nY (l.getD a ([], [], (0 : Int), [], ())).fst (l.getD a ([], [], (0 : Int), [], ())).snd.fst (l.getD a ([], [], (0 : Int), [], ())).snd.snd.fst (l.getD a ([], [], (0 : Int), [], ())).snd.snd.snd.fst = fP l ∧ True) (dg ((↑a : Int) + (1 : Int)) ∧ ∃ (a_3 : Nat), l = l ∧ (↑l.length : Int) = (↑l.length : Int) ∧ (↑a : Int) + (1 : Int) = (↑a_3 : Int) ∧ a_3 ≤ l.length ∧ fP (List.take a_3 l) = (0 : Int) ∧ l.length - a_3 < l.length - a)) ((0 : Int) = fP l ∧ True)) (by kernel_rfl) ?_
 simp only [bU, cV, dI, eM, gR, dg, and_true, true_and, eq_self]
 refine ⟨⟨0, rfl, by omega, rfl, by omega⟩, fun i k1 k2 => ⟨fun k3 => ⟨by omega, OV (P := ny) (by omega) h2, fun k4 => ⟨by omega, i + 1, by omega, by omega, O9 (by omega) k2 k4, by omega⟩, fun k4 => (Sv (by omega) k2 k4).symm⟩, fun k3 => ?_⟩⟩
 rw [show i = l.length by omega, List.take_length] at k2
 rw [k2]
def T6 : gN := (T5.mD 40 fun a c => dS (D13 a c)).fR 94 fun a => dS (D59 a)
def T7 : gN := T6
def T8 : gN := T7
section
variable {aZ : bn} (tk : oF aZ)
include tk
theorem Vc : lE aZ 5 T5 := wO tk (Qh tk) (by decide) Tryz.func89 rfl v77 (De (Qh tk) Tryz.func39 rfl v12 (gU (Qh tk)))
theorem Qg : lE aZ 6 T6 := wO tk (Vc tk) (by decide) Tryz.func94 rfl v59 (De (Vc tk) Tryz.func40 rfl v13 (gU (Vc tk)))
theorem abf : lE aZ 7 T7 := gU (Qg tk)
theorem abe : lE aZ 8 T8 := gU (abf tk)
end
end Go.Tv
end
section
namespace Go.Tv
open Go Go.Di Go.Proofs
set_option maxRecDepth 100000
set_option maxHeartbeats 1000000
def Tk (te:List TV) (tS:List TB) (i:Nat) (k:Nat→List Int→LA):LA :=
  match te.getD i .unk with
  | .so g _=>match tS.getD g .none with
    | .rows (.int .i64) _ l _=>k g l
    | _ => .un 0
  | _ => .un 0
def DJ (te:List TV) (i:Nat) (k:Int→LA):LA :=
  match te.getD i .unk with
  | .val (.int .i64 n)=>k n
  | _ => .un 0
def jR (l:List Int) (j:Nat):List Int:=l.take j++l.getD j 0::l.dropLast.drop j
section
variable {o:List Int} {j:Nat} {v y:Int}
theorem oZ (h:j≤o.length):jR (o++[y]) j=o.take j++(o++[y]).getD j 0::o.drop j:=by
  rw[jR,List.take_append_of_le_length h,List.dropLast_concat]
theorem EF (h:j≤o.length):(jR (o++[y]) j).length=o.length+1:=by
  rw[oZ h,List.length_append,List.length_cons,List.length_take,List.length_drop]
  omega
theorem Oy:jR (o++[0]) o.length=o++[0]:=by
  rw[oZ (Nat.le_refl _)]
  simp
theorem yI (h:j≤o.length):(jR (o++[y]) j).set j v=o.take j++v::o.drop j:=by
  rw[oZ h,List.set_append_right _ _ (by rw[List.length_take]; omega),List.length_take,Nat.min_eq_left h,Nat.sub_self]
  rfl
theorem Ox (h:j+1≤o.length):(jR (o++[y]) (j+1)).getD j 0=o.getD j 0:=by
  rw[oZ h,List.getD_eq_getElem?_getD,List.getElem?_append_left (by rw[List.length_take]; omega),List.getElem?_take_of_lt (by omega),← List.getD_eq_getElem?_getD]
theorem Kj (h:j+1≤o.length):(jR (o++[y]) (j+1)).set (j+1) ((jR (o++[y]) (j+1)).getD j 0)=jR (o++[y]) j:=by
  rw[yI h,Ox h,oZ (by omega),List.take_succ_eq_append_getElem (show j<o.length by omega),List.drop_eq_getElem_cons (show j<o.length by omega),List.append_assoc]
  have e:(o++[y]).getD j 0=o[j]:=by
    rw[List.getD_eq_getElem?_getD,List.getElem?_append_left (by omega),List.getElem?_eq_getElem (by omega)]; rfl
  have e2:o.getD j 0=o[j]:=by
    rw[List.getD_eq_getElem?_getD,List.getElem?_eq_getElem (by omega)]; rfl
  rw[e,e2]
  rfl
theorem Ow:(o.take j++v::o.drop j).Perm (v::o):=by
  have:=List.perm_middle (a:=v) (l₁:=o.take j) (l₂:=o.drop j)
  rwa [List.take_append_drop] at this
theorem RI {n:Nat} (hd:o.Nodup) (hb:∀ x∈o,0≤x∧x<(n:Int)):(o.take j++(n:Int)::o.drop j).Nodup∧∀ x∈o.take j++(n:Int)::o.drop j,0≤x∧x<((n+1:Nat):Int):=by
  have hp:=Ow (o:=o) (j:=j) (v:=(n:Int))
  refine⟨hp.nodup_iff.2 (List.nodup_cons.2 ⟨fun h => ?_,hd⟩),fun x hx => ?_⟩
  · have:=hb _ h; omega
  · rcases List.mem_cons.1 (hp.mem_iff.1 hx) with rfl | h
    · omega
    · have:=hb _ h; omega
end
def D68:List TV→List TV→Dn
  | [.ptr 0 0,.val (.int .i64 n)],[.sl (.int .i64) _ .no,.val (.int .u64 _)]=>some ([1≤n,n≤1000],.ex (List Int) fun o => .ex (List Int) fun r => .ex Int fun z => .res (.sl bX o .no) (rI r z) [(o.length:Int)=n,o.Nodup,∀ x∈o,0≤x∧x<n],
    [(4,.pe 1 (.dep fun te tS=>Tk te tS 5 fun g _ => .ex Nat fun i => .ex (List Int) fun o => .ex (List Int) fun r => .ex Int fun z => .st { sl:=[(6,bp i),(5,.so g (.int .i64))],pl:=[(0,rI r z)],mp:=[(g,⟨bX,o⟩)],dX:=[(i:Int)≤n,o.length=i,o.Nodup,∀ x∈o,0≤x∧x<(i:Int)],m:=n.toNat-i })),
     (12,.dep fun te tS=>Tk te tS 5 fun g l=>DJ te 6 fun i=>DJ te 7 fun k => .ex Nat fun j => .st { sl:=[(8,bp j)],mp:=[(g,⟨bX,jR l j⟩)],dX:=[k≤(j:Int),(j:Int)≤i],m:=j })])
  | _,_=>none
def v68.q1 (p0 p1:Nat) (p2:Prop):Prop:=dg ((↑p0:Int)-(1:Int))∧((0:Int)≤(↑p0:Int)-(1:Int)∧(↑p0:Int)-(1:Int)<(↑p1:Int))∧True∧((0:Int)≤(↑p0:Int)∧(↑p0:Int)<(↑p1:Int))∧True∧dg ((↑p0:Int)-(1:Int))∧p2
theorem v68:VC T3 Tryz.f68 [some cB] [some cB,some (.int .u64)] D68:=by
  refine DK fun a cs => ?_
  unfold D68
  split
  rotate_left
  · trivial
  rename_i n r z
  intro hp
  obtain⟨h1,h2,-⟩:=hp
  refine Dl (A:=aM (decide ((0:Int)<n)) ((0:Int)≤(1000:Int)∧(-10000:Int)≤(0:Int)∧∀ (a:Int) (a_1:List Int) (a_2:Int),(0:Int)≤a→a≤(0:Int)∨a=(0:Int)→(1:Nat)≤(1000000000:Nat)∧(∃ (a_3:Nat),(0:Int)=(↑a_3:Int)∧[(0:Int)]=jR [(0:Int)] a_3∧a≤(↑a_3:Int)∧(↑a_3:Int)≤(0:Int)∧a_3<(1000000:Nat))∧∀ (a_3:Nat),a≤(↑a_3:Int)→(↑a_3:Int)≤(0:Int)→aM (decide ((↑a_3:Int)>a)) (v68.q1 a_3 (jR [(0:Int)] a_3).length (∃ (a_4:Nat),n=n∧rD bX.den∧(0:Int)=(0:Int)∧a=a∧(↑a_3:Int)-(1:Int)=(↑a_4:Int)∧(0:Int)=(0:Int)∧n=n∧true=true∧(0:Int)=(0:Int)∧a=a∧rD bX.den∧[(0:Int)]=[(0:Int)]∧(0:Int)=(0:Int)∧a_1=a_1∧a_2=a_2∧(jR [(0:Int)] a_3).set a_3 ((jR [(0:Int)] a_3).getD ((↑a_3:Int)-(1:Int)).toNat (0:Int))=jR [(0:Int)] a_4∧a≤(↑a_4:Int)∧(↑a_4:Int)≤(0:Int)∧a_4<a_3)) (((0:Int)≤a∧a<(↑(jR [(0:Int)] a_3).length:Int))∧True∧dg (1:Int)∧(∃ (a_4:Nat),∃ (a_5:List Int),∃ (a_6:List Int),∃ (a_7:Int),(1:Int)=(↑a_4:Int)∧a_1=a_6∧a_2=a_7∧(jR [(0:Int)] a_3).set a.toNat (0:Int)=a_5∧(↑a_4:Int)≤n∧a_5.length=a_4∧a_5.Nodup∧(∀ (x:Int),x∈a_5→(0:Int)≤x∧x<(↑a_4:Int))∧n.toNat-a_4<(1000000:Nat))∧∀ (a:Nat) (a_4 a_5:List Int) (a_6:Int),(↑a:Int)≤n→a_4.length=a→a_4.Nodup→(∀ (x:Int),x∈a_4→(0:Int)≤x∧x<(↑a:Int))→aM (decide ((↑a:Int)<n)) ((↑a:Int)≤(1000:Int)∧(-10000:Int)≤(↑a:Int)∧∀ (a_7:Int) (a_8:List Int) (a_9:Int),(0:Int)≤a_7→a_7≤(↑a:Int)∨a_7=(0:Int)→a_4.length+(1:Nat)≤(1000000000:Nat)∧(∃ (a_10:Nat),(↑a:Int)=(↑a_10:Int)∧a_4++[(0:Int)]=jR (a_4++[(0:Int)]) a_10∧a_7≤(↑a_10:Int)∧(↑a_10:Int)≤(↑a:Int)∧a_10<(1000000:Nat))∧∀ (a_10:Nat),a_7≤(↑a_10:Int)→(↑a_10:Int)≤(↑a:Int)→aM (decide ((↑a_10:Int)>a_7)) (v68.q1 a_10 (jR (a_4++[(0:Int)]) a_10).length (∃ (a_11:Nat),n=n∧rD bX.den∧(↑a:Int)=(↑a:Int)∧a_7=a_7∧(↑a_10:Int)-(1:Int)=(↑a_11:Int)∧(↑a:Int)=(↑a:Int)∧n=n∧true=true∧(↑a:Int)=(↑a:Int)∧a_7=a_7∧[(0:Int)]=[(0:Int)]∧(↑a:Int)=(↑a:Int)∧a_8=a_8∧a_9=a_9∧(jR (a_4++[(0:Int)]) a_10).set a_10 ((jR (a_4++[(0:Int)]) a_10).getD ((↑a_10:Int)-(1:Int)).toNat (0:Int))=jR (a_4++[(0:Int)]) a_11∧a_7≤(↑a_11:Int)∧(↑a_11:Int)≤(↑a:Int)∧a_11<a_10)) (((0:Int)≤a_7∧a_7<(↑(jR (a_4++[(0:Int)]) a_10).length:Int))∧True∧dg ((↑a:Int)+(1:Int))∧∃ (a_11:Nat),∃ (a_12:List Int),∃ (a_13:List Int),∃ (a_14:Int),n=n∧rD bX.den∧(↑a:Int)+(1:Int)=(↑a_11:Int)∧a_8=a_13∧a_9=a_14∧(jR (a_4++[(0:Int)]) a_10).set a_7.toNat (↑a:Int)=a_12∧(↑a_11:Int)≤n∧a_12.length=a_11∧a_12.Nodup∧(∀ (x:Int),x∈a_12→(0:Int)≤x∧x<(↑a_11:Int))∧n.toNat-a_11<n.toNat-a)) (∃ (a:List Int),∃ (a_7:List Int),∃ (a_8:Int),a_4=a∧a_5=a_7∧a_6=a_8∧(↑a.length:Int)=n∧a.Nodup∧(∀ (x:Int),x∈a→(0:Int)≤x∧x<n)∧True))) (∃ (a:List Int),∃ (a_1:List Int),∃ (a_2:Int),[]=a∧r=a_1∧z=a_2∧(↑a.length:Int)=n∧a.Nodup∧(∀ (x:Int),x∈a→(0:Int)≤x∧x<n)∧True)) (by kernel_rfl) ?_
  unfold v68.q1
  simp only[bU,gR,and_true,true_and,eq_self,dg]
  refine⟨fun _=>⟨by omega,by omega,fun k r1 z1 h3 h4=>⟨by omega,⟨0,rfl,rfl,by omega,by omega,by first | omega | (dsimp only; omega)⟩,fun j h5 h6=>⟨fun h=>absurd h (by omega),fun _ => ?_⟩⟩⟩,fun h=>absurd h (by omega)⟩
  obtain rfl:j=0:=by omega
  obtain rfl:k=0:=by omega
  refine⟨⟨by omega,by simp[jR]⟩,by omega,⟨1,[0],r1,z1,rfl,rfl,rfl,rfl,by omega,rfl,by simp,by simp,by first | omega | (dsimp only; omega)⟩,fun i o r2 z2 hi hl hd hb=>⟨fun lD=>⟨by omega,by omega,fun k r3 z3 h7 h8=>⟨by omega,⟨i,rfl,?_,by omega,by omega,by first | omega | (dsimp only; omega)⟩,fun j h9 qZ=>⟨fun hj => ?_,fun hj => ?_⟩⟩⟩,fun lD => ?_⟩⟩
  · rw[← hl,Oy]
  · have e:=EF (o:=o) (y:=0) (j:=j) (by omega)
    obtain⟨m,rfl⟩:∃ m,j=m+1:=⟨j-1,by omega⟩
    refine⟨by omega,by omega,by omega,by omega,m,by omega,?_,by omega,by omega,by omega⟩
    rw[show ((↑(m+1):Int)-1).toNat=m by omega]
    exact Kj (by omega)
  · have e:=EF (o:=o) (y:=0) (j:=j) (by omega)
    obtain⟨m1,m2⟩:=RI (j:=j) hd (n:=i) hb
    refine⟨by omega,by omega,i+1,_,_,_,by omega,rfl,rfl,rfl,by omega,?_,?_,?_,by first | omega | (dsimp only; omega)⟩
    · rw[List.length_set]; omega
    · rw[show k.toNat=j by omega,yI (by omega)]; exact m1
    · rw[show k.toNat=j by omega,yI (by omega)]; exact m2
  · exact⟨o,r2,z2,rfl,rfl,rfl,by omega,hd,fun x hx=>by have:=hb x hx; omega⟩
end Go.Tv
end
