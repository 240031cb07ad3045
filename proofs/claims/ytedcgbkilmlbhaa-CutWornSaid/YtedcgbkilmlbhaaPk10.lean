import Derived.Test.YtedcgbkilmlbhaaPk09
import Derived.Test.YtedcgbkilmlbhaaPk05
section
namespace Go.Tv
open Go Go.Di Go.Proofs
set_option maxRecDepth 100000
set_option maxHeartbeats 1000000
abbrev Dz (v:Int→TV) (f:Int→List Prop):qO := .ex Int fun k => .ex (List Int) fun r => .ex Int fun z => .res (v k) (BM r z) (f k)
def D81:List TV→List TV→Dn
 | [.ptr 0 0],[.sl (.int .i64) _ .no,.val (.int .u64 z)]=>some ([],Dz (fun k => .val (.int .u64 k)) fun k=>[0≤k,k<4294967296],[(2,.ex Int fun k => .ex (List Int) fun r => .st { sl:=[(3,.val (.int .u64 k))],pl:=[(0,BM r z)] })])
 | _,_=>none
theorem v81:VC T0 Try.f55 [some (.int .u64)] [some aN,some (.int .u64)] D81:=by
 intro a cs p s j h hp
 unfold D81 at h
 split at h<;>cases h
 rename_i r z
 refine sg (A:=aL (decide ((↑r.length:Int)>(0:Int))) (((0:Int)≤(0:Int)∧(0:Int)<(↑r.length:Int))∧((0:Int)≤(1:Int)∧(1:Int)≤(↑r.length:Int))∧∃ (a:Int),∃ (a_1:List Int),(0:Int)=(0:Int)∧IntKind.u64.wrap (r.getD (0:Nat) (0:Int))=a∧List.drop (1:Nat) r=a_1∧z=z∧True) (∃ (a:Int),∃ (a_1:List Int),(0:Int)=(0:Int)∧(0:Int)=a∧r=a_1∧z=z∧True)∧∀ (a:Int) (a_1:List Int),∃ (a_2:Int),∃ (a_3:List Int),∃ (a_4:Int),(IntKind.u64.wrap (IntKind.u64.wrap (↑(BitVec.ofInt (64:Nat) (IntKind.u64.wrap (↑(BitVec.ofInt (64:Nat) (IntKind.u64.wrap (IntKind.u64.wrap (IntKind.u64.wrap (z+a)+(6364136223846793005:Int))*(15074714826142052245:Int))) ^^^ BitVec.ofInt (64:Nat) ((IntKind.u64.wrap (IntKind.u64.wrap (IntKind.u64.wrap (z+a)+(6364136223846793005:Int))*(15074714826142052245:Int))).fdiv (536870912:Int))).toNat:Int)) ^^^ BitVec.ofInt (64:Nat) ((IntKind.u64.wrap (↑(BitVec.ofInt (64:Nat) (IntKind.u64.wrap (IntKind.u64.wrap (IntKind.u64.wrap (z+a)+(6364136223846793005:Int))*(15074714826142052245:Int))) ^^^ BitVec.ofInt (64:Nat) ((IntKind.u64.wrap (IntKind.u64.wrap (IntKind.u64.wrap (z+a)+(6364136223846793005:Int))*(15074714826142052245:Int))).fdiv (536870912:Int))).toNat:Int)).fdiv (8589934592:Int))).toNat:Int)*(18397679294719823053:Int))).fdiv (4294967296:Int)=a_2∧a_1=a_3∧IntKind.u64.wrap (↑(BitVec.ofInt (64:Nat) (IntKind.u64.wrap (IntKind.u64.wrap (IntKind.u64.wrap (z+a)+(6364136223846793005:Int))*(15074714826142052245:Int))) ^^^ BitVec.ofInt (64:Nat) ((IntKind.u64.wrap (IntKind.u64.wrap (IntKind.u64.wrap (z+a)+(6364136223846793005:Int))*(15074714826142052245:Int))).fdiv (536870912:Int))).toNat:Int)=a_4∧(0:Int)≤a_2∧a_2<(4294967296:Int)∧True) (by kernel_rfl) ?_
 simp only[cZ,eu,dK,eL,iB,cq,and_true,true_and,eq_self]
 refine⟨⟨fun h=>⟨by omega,by omega,_,_,rfl,rfl⟩,fun h=>⟨_,_,rfl,rfl⟩⟩,fun k r1=>⟨_,_,_,rfl,rfl,rfl,(Tk rfl).1,(Tk rfl).2⟩⟩
def D11:List TV→Dn
 | [.sl (.int .i64) l .no]=>some ([],.res .unk (BM l 1) [],[])
 | _=>none
theorem v11:VN T0 Try.f7 [some aN,some (.int .u64)] D11:=by
 intro a p s j h hp
 unfold D11 at h
 split at h<;>cases h
 rename_i l
 refine sg (A:=l=l∧(1:Int)=(1:Int)∧True) (by kernel_rfl) ?_
 exact⟨rfl,rfl,trivial⟩
def D60:List TV→Dn
 | [.agg [.sl (.int .i64) ua .no,.sl (.int .i64) la .no],.agg [.sl (.int .i64) ub .no,.sl (.int .i64) lb .no],.val (.int .i64 s)]=>some ([la.length≤1000,ub.length≤1000,kU la,kU ub],.res (.fB [bX (stA la ub s).1,bX (stA la ub s).2.1,bX (stA la ub s).2.2]) [] [],
  [(6,.ex Nat fun i => .ex Int fun lo => .ex Int fun hi => .ex Int fun m => .st { sl:=[(6,bX lo),(7,bX hi),(8,bX m),(29,bX i)],eE:=[i≤ub.length,0≤m,m≤i,mQ (gK la ub s i)=(lo,hi,m)],m:=ub.length-i })])
 | _=>none
theorem v60:VI T0 Try.f51 [some cv,some cv,some cv] D60:=by
 intro a p s j h hp
 unfold D60 at h
 split at h<;>cases h
 rename_i ua la ub lb s
 obtain⟨h1,h2,h5,h6,-⟩:=hp
 refine sg (A:=cq (-(↑ub.length:Int))∧aL (decide (s ≤ -(↑ub.length:Int))) ((0:Int)=(stA la ub s).fst∧(0:Int)=(stA la ub s).snd.fst∧(0:Int)=(stA la ub s).snd.snd∧True) (aL (decide (s≥(↑la.length:Int))) ((0:Int)=(stA la ub s).fst∧(0:Int)=(stA la ub s).snd.fst∧(0:Int)=(stA la ub s).snd.snd∧True) ((∃ (a:Nat),∃ (a_1:Int),∃ (a_2:Int),∃ (a_3:Int),(0:Int)=a_1∧(0:Int)=a_2∧(0:Int)=a_3∧(0:Int)=(↑a:Int)∧a≤ub.length∧(0:Int)≤a_3∧a_3≤(↑a:Int)∧mQ (gK la ub s a)=(a_1,a_2,a_3)∧ub.length-a<(1000000:Nat))∧∀ (a:Nat) (a_1 a_2 a_3:Int),a≤ub.length→(0:Int)≤a_3→a_3≤(↑a:Int)→mQ (gK la ub s a)=(a_1,a_2,a_3)→aL (decide ((↑a:Int)<(↑ub.length:Int))) (((0:Int)≤(↑a:Int)∧(↑a:Int)<(↑ub.length:Int))∧cq ((↑a:Int)+s)∧aL (decide ((↑a:Int)+s<(0:Int))) (cq ((↑a:Int)+(1:Int))∧∃ (a_8:Nat),∃ (a_9:Int),∃ (a_10:Int),∃ (a_11:Int),s=s∧a_1=a_9∧a_2=a_10∧a_3=a_11∧ub=ub∧(↑ub.length:Int)=(↑ub.length:Int)∧(↑a:Int)+(1:Int)=(↑a_8:Int)∧ua=ua∧la=la∧ub=ub∧lb=lb∧a_8≤ub.length∧(0:Int)≤a_11∧a_11≤(↑a_8:Int)∧mQ (gK la ub s a_8)=(a_9,a_10,a_11)∧ub.length-a_8<ub.length-a) (aL (decide ((↑a:Int)+s≥(↑la.length:Int))) (cq ((↑a:Int)+(1:Int))∧∃ (a_8:Nat),∃ (a_9:Int),∃ (a_10:Int),∃ (a_11:Int),s=s∧a_1=a_9∧a_2=a_10∧a_3=a_11∧ub=ub∧(↑ub.length:Int)=(↑ub.length:Int)∧(↑a:Int)+(1:Int)=(↑a_8:Int)∧ua=ua∧la=la∧ub=ub∧lb=lb∧a_8≤ub.length∧(0:Int)≤a_11∧a_11≤(↑a_8:Int)∧mQ (gK la ub s a_8)=(a_9,a_10,a_11)∧ub.length-a_8<ub.length-a) (((0:Int)≤(↑a:Int)+s∧(↑a:Int)+s<(↑la.length:Int))∧cq (ub.getD a (0:Int)+la.getD ((↑a:Int)+s).toNat (0:Int))∧aL (a_3==(0:Int)) (cq (a_3+(1:Int))∧cq ((↑a:Int)+(1:Int))∧∃ (a_8:Nat),∃ (a_9:Int),∃ (a_10:Int),∃ (a_11:Int),s=s∧(if ub.getD a (0:Int)+la.getD ((↑a:Int)+s).toNat (0:Int)<ub.getD a (0:Int)+la.getD ((↑a:Int)+s).toNat (0:Int) then ub.getD a (0:Int)+la.getD ((↑a:Int)+s).toNat (0:Int) else ub.getD a (0:Int)+la.getD ((↑a:Int)+s).toNat (0:Int))=a_9∧(if ub.getD a (0:Int)+la.getD ((↑a:Int)+s).toNat (0:Int)>ub.getD a (0:Int)+la.getD ((↑a:Int)+s).toNat (0:Int) then ub.getD a (0:Int)+la.getD ((↑a:Int)+s).toNat (0:Int) else ub.getD a (0:Int)+la.getD ((↑a:Int)+s).toNat (0:Int))=a_10∧a_3+(1:Int)=a_11∧ub=ub∧(↑ub.length:Int)=(↑ub.length:Int)∧(↑a:Int)+(1:Int)=(↑a_8:Int)∧ua=ua∧la=la∧ub=ub∧lb=lb∧a_8≤ub.length∧(0:Int)≤a_11∧a_11≤(↑a_8:Int)∧mQ (gK la ub s a_8)=(a_9,a_10,a_11)∧ub.length-a_8<ub.length-a) (cq (a_3+(1:Int))∧cq ((↑a:Int)+(1:Int))∧∃ (a_8:Nat),∃ (a_9:Int),∃ (a_10:Int),∃ (a_11:Int),s=s∧(if ub.getD a (0:Int)+la.getD ((↑a:Int)+s).toNat (0:Int)<a_1 then ub.getD a (0:Int)+la.getD ((↑a:Int)+s).toNat (0:Int) else a_1)=a_9∧(if ub.getD a (0:Int)+la.getD ((↑a:Int)+s).toNat (0:Int)>a_2 then ub.getD a (0:Int)+la.getD ((↑a:Int)+s).toNat (0:Int) else a_2)=a_10∧a_3+(1:Int)=a_11∧ub=ub∧(↑ub.length:Int)=(↑ub.length:Int)∧(↑a:Int)+(1:Int)=(↑a_8:Int)∧ua=ua∧la=la∧ub=ub∧lb=lb∧a_8≤ub.length∧(0:Int)≤a_11∧a_11≤(↑a_8:Int)∧mQ (gK la ub s a_8)=(a_9,a_10,a_11)∧ub.length-a_8<ub.length-a)))) (a_1=(stA la ub s).fst∧a_2=(stA la ub s).snd.fst∧a_3=(stA la ub s).snd.snd∧True)))) (by kernel_rfl) ?_
 simp only[cZ,stA,eu,dK,eL,iB,cq,and_true,true_and,eq_self]
 refine⟨by omega,fun h=>by rw[Bj (.inl h)]; exact⟨rfl,rfl,rfl⟩,fun _=>⟨fun h=>by rw[Bj (.inr h)]; exact⟨rfl,rfl,rfl⟩,fun h=>⟨⟨0,0,0,0,rfl,rfl,rfl,rfl,by omega,by omega,by omega,rfl,by omega⟩,fun i lo hi m k1 k2 k3 k4=>⟨fun k5=>⟨by omega,by omega,fun k6=>⟨by omega,i+1,lo,hi,m,rfl,rfl,rfl,by omega,by omega,by omega,by omega,by rw[gK,if_neg (by omega)]; exact k4,by omega⟩,fun k6=>⟨fun k7=>⟨by omega,i+1,lo,hi,m,rfl,rfl,rfl,by omega,by omega,by omega,by omega,by rw[gK,if_neg (by omega)]; exact k4,by omega⟩,fun k7 => ?_⟩⟩,fun k5 => ?_⟩⟩⟩⟩
 ·have e1:=B1 h6 (i:=i) (by omega)
  have e2:=B1 h5 (i:=((i:Int)+s).toNat) (by omega)
  exact⟨by omega,by omega,fun k8=>⟨by omega,by omega,i+1,_,_,_,rfl,rfl,rfl,by omega,by omega,by omega,by omega,by rw[gK,if_pos (by omega)]; exact Nz k4 k8,by omega⟩,fun k8=>⟨by omega,by omega,i+1,_,_,_,rfl,rfl,rfl,by omega,by omega,by omega,by omega,by rw[gK,if_pos (by omega)]; exact Jy k4 k8,by omega⟩⟩
 ·rw[show i=ub.length by omega] at k4
  rw[k4]; exact⟨rfl,rfl,rfl⟩
def T1b:gN:=((T1.qp 55 fun a c=>dS (D81 a c)).Qi 7 fun a=>dS (D11 a)).dQ 51 fun a=>dS (D60 a)
def D46:List TV→List TV→Dn
 | [.ptr 0 0,.val (.int .i64 m)],[.sl (.int .i64) _ .no,.val (.int .u64 _)]=>some ([m≤1000,-10000≤m],Dz bX fun k=>[0≤k,k≤m∨k=0],[])
 | _,_=>none
theorem v46:VC T1b Try.f28 [some cv] [some aN,some (.int .u64)] D46:=by
 intro a cs p s j h hp
 unfold D46 at h
 split at h<;>cases h
 rename_i m r z
 obtain⟨h1,h2,-⟩:=hp
 refine sg (A:=aL (decide (m≤(0:Int))) (∃ (a:Int),∃ (a_1:List Int),∃ (a_2:Int),(0:Int)=a∧r=a_1∧z=a_2∧(0:Int)≤a∧(a≤m∨a=(0:Int))∧True) (∀ (a:Int) (a_1:List Int) (a_2:Int),(0:Int)≤a→a<(4294967296:Int)→cq (m+(1:Int))∧∃ (a_5:Int),∃ (a_6:List Int),∃ (a_7:Int),IntKind.i64.wrap ((IntKind.u64.wrap (a*IntKind.u64.wrap (m+(1:Int)))).fdiv (4294967296:Int))=a_5∧a_1=a_6∧a_2=a_7∧(0:Int)≤a_5∧(a_5≤m∨a_5=(0:Int))∧True)) (by kernel_rfl) ?_
 simp only[cZ,eu,dK,eL,iB,cq,and_true,true_and,eq_self]
 exact⟨fun h=>⟨0,_,_,rfl,rfl,rfl,by omega,by omega⟩,fun h k r1 z1 h3 h4=>⟨by omega,_,_,_,rfl,rfl,rfl,(SE h1 (by omega) h3 h4).1,(SE h1 (by omega) h3 h4).2⟩⟩
def D65:List TV→Dn
 | [.agg [.sl (.int .i64) ua .no,.sl (.int .i64) la .no],.agg [.sl (.int .i64) ub .no,.sl (.int .i64) lb .no],.val (.int .i64 w)]=>some ([la.length≤100,ub.length≤100,kU la,kU ub],.res (.sl cv (pe la ub w (ub.length+la.length+1)) .no) [] [],
  [(4,.ex Nat fun k => .st { sl:=[(7,.sl cv (pe la ub w k) (.nY 2)),(8,bX ((k:Int)-(ub.length:Int)))],own:=[(3,1)],eE:=[k≤ub.length+la.length+1],m:=ub.length+la.length+1-k })])
 | _=>none
theorem v65:VI T1b Try.f59 [some aN] D65:=by
 intro a p s j h hp
 unfold D65 at h
 split at h<;>cases h
 rename_i ua la ub lb w
 obtain⟨h1,h2,h3,h4,-⟩:=hp
 refine sg (A:=cq (-(↑ub.length:Int))∧(∃ (a:Nat),[]=pe la ub w a ∧ -(↑ub.length:Int)=(↑a:Int)-(↑ub.length:Int)∧a≤ub.length+la.length+(1:Nat)∧ub.length+la.length+(1:Nat)-a<(1000000:Nat))∧∀ (a:Nat),a≤ub.length+la.length+(1:Nat)→aL (decide ((↑a:Int)-(↑ub.length:Int)≤(↑la.length:Int))) (la.length≤(1000:Nat)∧ub.length≤(1000:Nat)∧kU la∧kU ub∧aL (decide ((stA la ub ((↑a:Int)-(↑ub.length:Int))).snd.snd≥(3:Int))) (cq ((stA la ub ((↑a:Int)-(↑ub.length:Int))).snd.fst-(stA la ub ((↑a:Int)-(↑ub.length:Int))).fst)∧aL (decide ((stA la ub ((↑a:Int)-(↑ub.length:Int))).snd.fst-(stA la ub ((↑a:Int)-(↑ub.length:Int))).fst≤w)) ((pe la ub w a).length+(1:Nat)≤(1000000000:Nat)∧cq ((↑a:Int)-(↑ub.length:Int)+(1:Int))∧∃ (a_2:Nat),w=w∧BC cv.den∧pe la ub w a++[(↑a:Int)-(↑ub.length:Int)]=pe la ub w a_2∧(↑a:Int)-(↑ub.length:Int)+(1:Int)=(↑a_2:Int)-(↑ub.length:Int)∧ua=ua∧la=la∧ub=ub∧lb=lb∧a_2≤ub.length+la.length+(1:Nat)∧ub.length+la.length+(1:Nat)-a_2<ub.length+la.length+(1:Nat)-a) (cq ((↑a:Int)-(↑ub.length:Int)+(1:Int))∧∃ (a_2:Nat),w=w∧BC cv.den∧pe la ub w a=pe la ub w a_2∧(↑a:Int)-(↑ub.length:Int)+(1:Int)=(↑a_2:Int)-(↑ub.length:Int)∧ua=ua∧la=la∧ub=ub∧lb=lb∧a_2≤ub.length+la.length+(1:Nat)∧ub.length+la.length+(1:Nat)-a_2<ub.length+la.length+(1:Nat)-a)) (cq ((↑a:Int)-(↑ub.length:Int)+(1:Int))∧∃ (a_2:Nat),w=w∧BC cv.den∧pe la ub w a=pe la ub w a_2∧(↑a:Int)-(↑ub.length:Int)+(1:Int)=(↑a_2:Int)-(↑ub.length:Int)∧ua=ua∧la=la∧ub=ub∧lb=lb∧a_2≤ub.length+la.length+(1:Nat)∧ub.length+la.length+(1:Nat)-a_2<ub.length+la.length+(1:Nat)-a)) (pe la ub w a=pe la ub w (ub.length+la.length+(1:Nat))∧True)) (by kernel_rfl) ?_
 simp only[cZ,stA,eu,dK,eL,iB,cq,and_true,true_and,eq_self]
 refine⟨by omega,⟨0,rfl,by omega,by omega,by omega⟩,fun k hk=>⟨fun h=>⟨by omega,by omega,h3,h4,?_⟩,fun h=>by rw[show k=ub.length+la.length+1 by omega]⟩⟩
 have e:=FK (ub:=ub) ((k:Int)-ub.length) h3 h4
 simp only[stA] at e
 have hl:=QL la ub w k
 exact⟨fun h5=>⟨by omega,fun h6=>⟨by omega,by omega,k+1,QK (decide_eq_true ⟨h5,h6⟩),by omega,by omega,by omega⟩,fun h6=>⟨by omega,k+1,MA (decide_eq_false fun e=>h6 e.2),by omega,by omega,by omega⟩⟩,fun h5=>⟨by omega,k+1,MA (decide_eq_false fun e=>h5 e.1),by omega,by omega,by omega⟩⟩
def T2:gN:=(((T1b.qp 28 fun a c=>dS (D46 a c)).dQ 12 fun a=>dS (D16 a)).qp 105 fun a c=>dS (Vm a c)).dQ 59 fun a=>dS (D65 a)
def D19:List TV→List TV→Dn
 | [.ptr 0 0,.val (.int .i64 lo),.val (.int .i64 hi)],[.sl (.int .i64) _ .no,.val (.int .u64 _)]=>some ([-1000≤lo,lo≤1000,-1000≤hi,hi≤1000+lo,hi≤5000],Dz bX fun k=>[lo≤k,k≤hi∨k=lo],[])
 | _,_=>none
theorem v19:VC T2 Try.f24 [some cv] [some aN,some (.int .u64)] D19:=by
 intro a cs p s j h hp
 unfold D19 at h
 split at h<;>cases h
 rename_i lo hi r z
 obtain⟨h1,h2,h3,h4,h5,-⟩:=hp
 refine sg (A:=cq (hi-lo)∧hi-lo≤(1000:Int)∧(-10000:Int)≤hi-lo∧∀ (a:Int) (a_1:List Int) (a_2:Int),(0:Int)≤a→a≤hi-lo∨a=(0:Int)→cq (lo+a)∧∃ (a_5:Int),∃ (a_6:List Int),∃ (a_7:Int),lo+a=a_5∧a_1=a_6∧a_2=a_7∧lo≤a_5∧(a_5≤hi∨a_5=lo)∧True) (by kernel_rfl) ?_
 simp only[cZ,eu,dK,eL,iB,cq,and_true,true_and,eq_self]
 exact⟨by omega,by omega,by omega,fun k r1 z1 h6 h7=>⟨by omega,_,_,_,rfl,rfl,rfl,by omega,by omega⟩⟩
def D27:List TV→List TV→Dn
 | [.ptr 0 0,.val (.int .i64 m)],[.sl (.int .i64) _ .no,.val (.int .u64 _)]=>some ([m≤1000,0≤m],.ex Bool fun b=>Dz (fun _=>mX b) fun _=>[],[])
 | _,_=>none
theorem v27:VC T2 Try.f41 [some .bool] [some aN,some (.int .u64)] D27:=by
 intro a cs p s j h hp
 unfold D27 at h
 split at h<;>cases h
 rename_i m r z
 obtain⟨h1,h2,-⟩:=hp
 refine sg (A:=cq (m-(1:Int))∧m-(1:Int)≤(1000:Int)∧(-10000:Int)≤m-(1:Int)∧∀ (a:Int) (a_1:List Int) (a_2:Int),(0:Int)≤a→a≤m-(1:Int)∨a=(0:Int)→∃ (a_5:Bool),∃ (a_6:Int),∃ (a_7:List Int),∃ (a_8:Int),(a==IntKind.i64.wrap (m.tdiv (2:Int)))=a_5∧a_1=a_7∧a_2=a_8∧True) (by kernel_rfl) ?_
 simp only[cZ,eu,dK,eL,iB,cq,and_true,true_and,eq_self]
 exact⟨by omega,by omega,by omega,fun k r1 z1 _ _=>⟨_,0,_,_,rfl,rfl,rfl⟩⟩
def D45:List TV→List TV→Dn
 | [.ptr 0 0,.sl (.int .i64) l .no],[.sl (.int .i64) _ .no,.val (.int .u64 _)]=>some ([0<l.length,l.length≤1000],Dz bX fun k=>[k∈l],[])
 | _,_=>none
theorem v45:VC T2 Try.f27 [some cv] [some aN,some (.int .u64)] D45:=by
 intro a cs p s j h hp
 unfold D45 at h
 split at h<;>cases h
 rename_i l r z
 obtain⟨h1,h2,-⟩:=hp
 refine sg (A:=cq ((↑l.length:Int)-(1:Int))∧(↑l.length:Int)-(1:Int)≤(1000:Int)∧(-10000:Int)≤(↑l.length:Int)-(1:Int)∧∀ (a:Int) (a_1:List Int) (a_2:Int),(0:Int)≤a→a≤(↑l.length:Int)-(1:Int)∨a=(0:Int)→((0:Int)≤a∧a<(↑l.length:Int))∧∃ (a_5:Int),∃ (a_6:List Int),∃ (a_7:Int),l.getD a.toNat (0:Int)=a_5∧a_1=a_6∧a_2=a_7∧a_5∈l∧True) (by kernel_rfl) ?_
 simp only[cZ,eu,dK,eL,iB,cq,and_true,true_and,eq_self]
 exact⟨by omega,by omega,by omega,fun k r1 z1 h3 h4=>⟨by omega,_,_,_,rfl,rfl,rfl,fT (by omega)⟩⟩
def D96:List TV→List TV→Dn
 | [.sl (.int .i64) l .no,.fn 103 [] [.ptr 0 0]],[.val (.int .i64 cO)]=>some ([l.length≤1000],.res (mX (!l.all (oa cO))) [bX cO] [],[])
 | _,_=>none
theorem v96:VC T2 Try.f102 [some .bool] [some cv] D96:=by
 intro a cs p s j h hp
 unfold D96 at h
 split at h<;>cases h
 rename_i l cO
 have h1:=hp.1
 refine sg (A:=l.length≤(1000:Nat)∧∀ (a:Int),(if l.all (oa cO)=true then a=(-1:Int) else (0:Int)≤a)→decide (a≥(0:Int)) = !l.all (oa cO)∧cO=cO∧True) (by kernel_rfl) ?_
 simp only[cZ,eu,dK,eL,iB,cq,and_true,true_and,eq_self]
 refine⟨h1,fun k hk => ?_⟩
 cases hl:l.all (oa cO)<;>simp[hl] at hk ⊢<;>omega
def T3:gN:=(((T2.qp 24 fun a c=>dS (D19 a c)).qp 41 fun a c=>dS (D27 a c)).qp 27 fun a c=>dS (D45 a c)).qp 102 fun a c=>dS (D96 a c)
def D44:List TV→List TV→Dn
 | [.ptr 0 0,.val (.int .i64 c)],[.sl (.int .i64) _ .no,.val (.int .u64 _)]=>some ([0≤c,c≤100],.ex (List Int) fun o => .ex (List Int) fun r => .ex Int fun z => .res (.sl cv o .no) (BM r z) [(o.length:Int)=c,kU o],
  [(5,.ex Nat fun i => .ex (List Int) fun o => .ex (List Int) fun r => .ex Int fun z => .st { sl:=[(6,.sl cv o (.nY 1)),(7,bX i)],pl:=[(0,BM r z)],own:=[(3,1)],eE:=[(i:Int)≤c,o.length=i,kU o],m:=c.toNat-i })])
 | _,_=>none
theorem v44:VC T3 Try.f26 [some aN] [some aN,some (.int .u64)] D44:=by
 intro a cs p s j h hp
 unfold D44 at h
 split at h<;>cases h
 rename_i c r z
 obtain⟨h1,h2,-⟩:=hp
 refine sg (A:=(7:Int)≤(1000:Int)∧(-10000:Int)≤(7:Int)∧∀ (a:Int) (a_1:List Int) (a_2:Int),(0:Int)≤a→a≤(7:Int)∨a=(0:Int)→(0:Nat)<(3:Nat)∧(3:Nat)≤(1000:Nat)∧∀ (a_5:Int) (a_6:List Int) (a_7:Int),a_5∈[(0:Int),(2:Int),a]→(∃ (a:Nat),∃ (a_8:List Int),∃ (a_9:List Int),∃ (a_10:Int),[]=a_8∧(0:Int)=(↑a:Int)∧a_6=a_9∧a_7=a_10∧(↑a:Int)≤c∧a_8.length=a∧kU a_8∧c.toNat-a<(1000000:Nat))∧∀ (a:Nat) (a_8 a_9:List Int) (a_10:Int),(↑a:Int)≤c→a_8.length=a→kU a_8→aL (decide ((↑a:Int)<c)) ((0:Nat)<(4:Nat)∧(4:Nat)≤(1000:Nat)∧∀ (a_14:Int) (a_15:List Int) (a_16:Int),a_14∈[(0:Int),(0:Int),(1:Int),(2:Int)]→cq (a_5+a_14)∧a_8.length+(1:Nat)≤(1000000000:Nat)∧cq ((↑a:Int)+(1:Int))∧∃ (a_18:Nat),∃ (a_19:List Int),∃ (a_20:List Int),∃ (a_21:Int),c=c∧BC cv.den∧a_5=a_5∧a_8++[a_5+a_14]=a_19∧(↑a:Int)+(1:Int)=(↑a_18:Int)∧a_15=a_20∧a_16=a_21∧(↑a_18:Int)≤c∧a_19.length=a_18∧kU a_19∧c.toNat-a_18<c.toNat-a) (∃ (a:List Int),∃ (a_14:List Int),∃ (a_15:Int),a_8=a∧a_9=a_14∧a_10=a_15∧(↑a.length:Int)=c∧kU a∧True)) (by kernel_rfl) ?_
 simp only[cZ,eu,dK,eL,iB,cq,and_true,true_and,eq_self]
 refine⟨by omega,by omega,fun k1 r1 z1 h3 h4=>⟨by omega,by omega,fun k2 r2 z2 h5 => ?_⟩⟩
 have h6:0≤k2∧k2≤7:=by simp at h5; omega
 refine⟨⟨0,[],r2,z2,rfl,rfl,rfl,rfl,h1,rfl,by simp[kU],by omega⟩,fun i o r3 z3 h6 h7 h8=>⟨fun h9=>⟨by omega,by omega,fun k4 r4 z4 rX => ?_⟩,fun h9=>⟨_,_,_,rfl,rfl,rfl,by omega,h8⟩⟩⟩
 have zu:0≤k4∧k4≤2:=by simp at rX; omega
 exact⟨by omega,by omega,by omega,i+1,_,_,_,rfl,by omega,rfl,rfl,by omega,by simp[h7],tB h8 (by omega),by omega⟩
def D47:List TV→List TV→Dn
 | [.ptr 0 0],[.sl (.int .i64) _ .no,.val (.int .u64 _)]=>some ([],.ex (List Int) fun o => .ex (List Int) fun r => .ex Int fun z => .res (.sl cv o .no) (BM r z) [o≠[],∀ x∈o,0≤x∧x≤3,o.Pairwise (· < ·)],
  [(4,.ex Nat fun i => .ex (List Int) fun o => .ex (List Int) fun r => .ex Int fun z => .st { sl:=[(3,.sl cv o (.nY 1)),(4,bX i)],pl:=[(0,BM r z)],own:=[(3,1)],eE:=[i≤4,o.length≤i,∀ x∈o,0≤x∧x<i,o.Pairwise (· < ·)],m:=4-i })])
 | _,_=>none
theorem v47:VC T3 Try.f29 [some aN] [some aN,some (.int .u64)] D47:=by
 intro a cs p s j h hp
 unfold D47 at h
 split at h<;>cases h
 rename_i r z
 refine sg (A:=(∃ (a:Nat),∃ (a_1:List Int),∃ (a_2:List Int),∃ (a_3:Int),[]=a_1∧(0:Int)=(↑a:Int)∧r=a_2∧z=a_3∧a≤(4:Nat)∧a_1.length≤a∧(∀ (x:Int),x∈a_1→(0:Int)≤x∧x<(↑a:Int))∧List.Pairwise (fun(x1 x2:Int)=>x1<x2) a_1∧(4:Nat)-a<(1000000:Nat))∧∀ (a:Nat) (a_1 a_2:List Int) (a_3:Int),a≤(4:Nat)→a_1.length≤a→(∀ (x:Int),x∈a_1→(0:Int)≤x∧x<(↑a:Int))→List.Pairwise (fun(x1 x2:Int)=>x1<x2) a_1→aL (decide ((↑a:Int)≤(3:Int))) ((2:Int)≤(1000:Int)∧(0:Int)≤(2:Int)∧∀ (a_8:Bool) (a_9:Int) (a_10:List Int) (a_11:Int),aL a_8 (a_1.length+(1:Nat)≤(1000000000:Nat)∧cq ((↑a:Int)+(1:Int))∧∃ (a_12:Nat),∃ (a_13:List Int),∃ (a_14:List Int),∃ (a_15:Int),BC cv.den∧a_1++[(↑a:Int)]=a_13∧(↑a:Int)+(1:Int)=(↑a_12:Int)∧a_10=a_14∧a_11=a_15∧a_12≤(4:Nat)∧a_13.length≤a_12∧(∀ (x:Int),x∈a_13→(0:Int)≤x∧x<(↑a_12:Int))∧List.Pairwise (fun(x1 x2:Int)=>x1<x2) a_13∧(4:Nat)-a_12<(4:Nat)-a) (cq ((↑a:Int)+(1:Int))∧∃ (a_12:Nat),∃ (a_13:List Int),∃ (a_14:List Int),∃ (a_15:Int),BC cv.den∧a_1=a_13∧(↑a:Int)+(1:Int)=(↑a_12:Int)∧a_10=a_14∧a_11=a_15∧a_12≤(4:Nat)∧a_13.length≤a_12∧(∀ (x:Int),x∈a_13→(0:Int)≤x∧x<(↑a_12:Int))∧List.Pairwise (fun(x1 x2:Int)=>x1<x2) a_13∧(4:Nat)-a_12<(4:Nat)-a)) (aL ((↑a_1.length:Int)==(0:Int)) ((3:Int)≤(1000:Int)∧(-10000:Int)≤(3:Int)∧∀ (a:Int) (a_8:List Int) (a_9:Int),(0:Int)≤a→a≤(3:Int)∨a=(0:Int)→∃ (a_12:List Int),∃ (a_13:List Int),∃ (a_14:Int),[a]=a_12∧a_8=a_13∧a_9=a_14∧a_12≠[]∧(∀ (x:Int),x∈a_12→(0:Int)≤x∧x≤(3:Int))∧List.Pairwise (fun(x1 x2:Int)=>x1<x2) a_12∧True) (∃ (a:List Int),∃ (a_8:List Int),∃ (a_9:Int),a_1=a∧a_2=a_8∧a_3=a_9∧a≠[]∧(∀ (x:Int),x∈a→(0:Int)≤x∧x≤(3:Int))∧List.Pairwise (fun(x1 x2:Int)=>x1<x2) a∧True))) (by kernel_rfl) ?_
 simp only[cZ,eu,dK,eL,iB,cq,and_true,true_and,eq_self]
 refine⟨⟨0,[],_,_,rfl,rfl,rfl,rfl,by omega,by simp,by simp,by simp,by omega⟩,fun i o r1 z1 h1 h2 h3 h4=>⟨fun h5=>⟨by omega,by omega,fun b _ r2 z2 => ?_⟩,fun h5=>⟨fun h6=>⟨by omega,by omega,fun k r2 z2 h7 h8=>⟨_,_,_,rfl,rfl,rfl,by simp,by simp; omega,by simp⟩⟩,fun h6=>⟨_,_,_,rfl,rfl,rfl,fun e=>h6 (by rw[e]; rfl),fun x hx=>by have:=h3 x hx; omega,h4⟩⟩⟩⟩
 rw[jH]
 exact⟨fun _=>⟨by omega,by omega,i+1,_,_,_,rfl,by omega,rfl,rfl,by omega,by simp; omega,tB (fun x hx=>by have:=h3 x hx; omega) (by omega),OZ h4 (fun x hx=>(h3 x hx).2),by omega⟩,fun _=>⟨by omega,i+1,_,_,_,rfl,by omega,rfl,rfl,by omega,by omega,fun x hx=>by have:=h3 x hx; omega,h4,by omega⟩⟩
def D78:List TV→Dn
 | [.sl (.int .i64) l .no,.val (.int .i64 cO)]=>some ([l.length≤1000],.res (mX (l.all (oa cO))) [] [],[])
 | _=>none
theorem v78:VI T3 Try.f94 [some .bool] D78:=by
 intro a p s j h hp
 unfold D78 at h
 split at h<;>cases h
 rename_i l cO
 have h1:=hp.1
 refine sg (A:=l.length≤(1000:Nat)∧(!!l.all (oa cO))=l.all (oa cO)∧True) (by kernel_rfl) ?_
 exact⟨h1,Bool.not_not _,trivial⟩
def T4:gN:=((T3.qp 26 fun a c=>dS (D44 a c)).qp 29 fun a c=>dS (D47 a c)).dQ 94 fun a=>dS (D78 a)
section
variable {aZ:bq} (tk:sC aZ)
include tk
theorem LN:lg aZ 1 T1b:=rV tk (iz tk) (by decide) Try.func51 rfl v60 (mkN tk (iz tk) (by decide) Try.func7 rfl v11 (I1 (iz tk) Try.func55 rfl v81 (Uv tk)))
theorem zJ:lg aZ 2 T2:=rV tk (LN tk) (by decide) Try.func59 rfl v65 (I1 (Uv tk) Try.func105 rfl v109 (rV tk (Uv tk) (by decide) Try.func12 rfl v16 (I1 (LN tk) Try.func28 rfl v46 (iW (LN tk)))))
theorem PR:lg aZ 3 T3:=I1 (zJ tk) Try.func102 rfl v96 (I1 (zJ tk) Try.func27 rfl v45 (I1 (zJ tk) Try.func41 rfl v27 (I1 (zJ tk) Try.func24 rfl v19 (iW (zJ tk)))))
theorem Uu:lg aZ 4 T4:=rV tk (PR tk) (by decide) Try.func94 rfl v78 (I1 (PR tk) Try.func29 rfl v47 (I1 (PR tk) Try.func26 rfl v44 (iW (PR tk))))
end
end Go.Tv
end
section
namespace Go.Tv
open Go Go.Di Go.Proofs
set_option maxRecDepth 100000
abbrev pcS (f : List Int → List Int → Int → List Int → List Prop) : qO := .ex (List Int) fun u => .ex (List Int) fun l => .ex Int fun w => .ex (List Int) fun ls => .ex (List Int) fun r => .ex Int fun z => .res (pcV u l w ls) (BM r z) (f u l w ls)
def D12 : List TV → List TV → Dn
 | [.ptr 0 0, .val (.int .i64 c)], [.sl (.int .i64) _ .no, .val (.int .u64 _)] => some ([3 ≤ c, c ≤ 8], pcS fun u l w ls => [Ok u l w ls, (u.length : Int) ≤ c], [])
 | _, _ => none
theorem v12 : VC T4 Try.f8 [some gI] [some aN, some (.int .u64)] D12 := by
 intro a cs p s j h hp
 unfold D12 at h
 split at h <;> cases h
 rename_i c r z
 obtain ⟨h1, h2, -⟩ := hp
 refine sg (A := (-1000 : Int) ≤ (3 : Int) ∧ (3 : Int) ≤ (1000 : Int) ∧ (-1000 : Int) ≤ c ∧ c ≤ (1003 : Int) ∧ c ≤ (5000 : Int) ∧ ∀ (a : Int) (a_1 : List Int) (a_2 : Int), (3 : Int) ≤ a → a ≤ c ∨ a = (3 : Int) → (0 : Int) ≤ a ∧ a ≤ (100 : Int) ∧ ∀ (a_5 a_6 : List Int) (a_7 : Int), (↑a_5.length : Int) = a → kU a_5 → (0 : Int) ≤ a ∧ a ≤ (100 : Int) ∧ ∀ (a_10 a_11 : List Int) (a_12 : Int), (↑a_10.length : Int) = a → kU a_10 → (2 : Int) ≤ (1000 : Int) ∧ (-10000 : Int) ≤ (2 : Int) ∧ ∀ (a : Int) (a_13 : List Int) (a_14 : Int), (0 : Int) ≤ a → a ≤ (2 : Int) ∨ a = (0 : Int) → (0 : Nat) < (4 : Nat) ∧ (4 : Nat) ≤ (1000 : Nat) ∧ ∀ (a_17 : Int) (a_18 : List Int) (a_19 : Int), a_17 ∈ [(0 : Int), (0 : Int), (1 : Int), a] → ∀ (a a_20 : List Int) (a_21 : Int), a ≠ [] → (∀ (x : Int), x ∈ a → (0 : Int) ≤ x ∧ x ≤ (3 : Int)) → List.Pairwise (fun (x1 x2 : Int) => x1 < x2) a → ∃ (a_25 : List Int), ∃ (a_26 : List Int), ∃ (a_27 : Int), ∃ (a_28 : List Int), ∃ (a_29 : List Int), ∃ (a_30 : Int), a_5 = a_25 ∧ a_10 = a_26 ∧ a_17 = a_27 ∧ a = a_28 ∧ a_20 = a_29 ∧ a_21 = a_30 ∧ Ok a_25 a_26 a_27 a_28 ∧ (↑a_25.length : Int) ≤ c ∧ True) (by kernel_rfl) ?_
 simp only [cZ, eu, dK, eL, iB, cq, and_true, true_and, eq_self]
 refine ⟨by omega, by omega, by omega, by omega, by omega, fun n r1 z1 h3 h4 => ⟨by omega, by omega, fun u r2 z2 h5 h6 => ⟨by omega, by omega, fun l r3 z3 h7 h8 => ⟨by omega, by omega, fun k r4 z4 h9 rX => ⟨by omega, by omega, fun w r5 z5 zu ls r6 z6 KU Sy Yd => ?_⟩⟩⟩⟩⟩
 have PL : 0 ≤ w ∧ w ≤ 2 := by simp at zu; omega
 exact ⟨u, l, w, ls, r6, z6, rfl, rfl, rfl, rfl, rfl, rfl, ⟨by omega, by omega, by omega, h6, h8, PL.1, PL.2, KU, Sy, Yd⟩, by omega⟩
def D77 : List TV → Dn
 | [.agg [.sl (.int .i64) u .no, .sl (.int .i64) l .no, .val (.int .i64 w), .sl (.int .i64) ls .no]] => some ([Sh u l ls], .res (bX (oe u l w ls)) [] [],
  [(3, .un 3), (19, .ex Nat fun i => .st { sl := [(71, bX i)], eE := [i ≤ ls.length, jT ls 0 = jT ls i], m := ls.length - i })])
 | _ => none
set_option maxHeartbeats 1000000 in
theorem v77 : VI T4 Try.f80 [some cv] D77 := by
 intro a p s j h hp
 unfold D77 at h
 split at h <;> cases h
 rename_i u l w ls
 change List Int at u l ls
 obtain ⟨h1, h2, h3⟩ := hp.1
 refine sg (A := ((0 : Int) ≤ (0 : Int) ∧ (0 : Int) < (↑(2 : Nat) : Int)) ∧ aL (decide ((↑u.length : Int) < (3 : Int))) ((7 : Int) = oe u l w ls ∧ True) (aL (decide ((↑u.length : Int) < (↑u.length : Int))) ((7 : Int) = oe u l w ls ∧ True) (aL (decide ((↑u.length : Int) > (8 : Int))) ((6 : Int) = oe u l w ls ∧ True) (aL (decide ((↑u.length : Int) > (↑u.length : Int))) ((6 : Int) = oe u l w ls ∧ True) (cq (1 : Int) ∧ ((0 : Int) ≤ (1 : Int) ∧ (1 : Int) < (↑(2 : Nat) : Int)) ∧ aL (decide ((↑l.length : Int) < (3 : Int))) ((7 : Int) = oe u l w ls ∧ True) (aL (decide ((↑l.length : Int) < (↑u.length : Int))) ((7 : Int) = oe u l w ls ∧ True) (aL (decide ((↑l.length : Int) > (8 : Int))) ((6 : Int) = oe u l w ls ∧ True) (aL (decide ((↑l.length : Int) > (↑u.length : Int))) ((6 : Int) = oe u l w ls ∧ True) (cq (2 : Int) ∧ u.length ≤ (1000 : Nat) ∧ aL (!u.all (oa (9 : Int))) ((1 : Int) = oe u l w ls ∧ True) (l.length ≤ (1000 : Nat) ∧ aL (!l.all (oa (9 : Int))) ((1 : Int) = oe u l w ls ∧ True) (aL (decide (w < (0 : Int))) ((1 : Int) = oe u l w ls ∧ True) (aL (decide (w > (2 : Int))) ((1 : Int) = oe u l w ls ∧ True) (aL ((↑ls.length : Int) == (0 : Int)) ((7 : Int) = oe u l w ls ∧ True) ((∃ (a : Nat), (0 : Int) = (↑a : Int) ∧ a ≤ ls.length ∧ jT ls (0 : Nat) = jT ls a ∧ ls.length - a < (1000000 : Nat)) ∧ ∀ (a : Nat), a ≤ ls.length → jT ls (0 : Nat) = jT ls a → aL (decide ((↑a : Int) < (↑ls.length : Int))) (((0 : Int) ≤ (↑a : Int) ∧ (↑a : Int) < (↑ls.length : Int)) ∧ aL (decide (ls.getD a (0 : Int) < (0 : Int))) ((8 : Int) = oe u l w ls ∧ True) (aL (decide (ls.getD a (0 : Int) > (3 : Int))) ((8 : Int) = oe u l w ls ∧ True) (aL (decide ((↑a : Int) > (0 : Int))) (cq ((↑a : Int) - (1 : Int)) ∧ ((0 : Int) ≤ (↑a : Int) - (1 : Int) ∧ (↑a : Int) - (1 : Int) < (↑ls.length : Int)) ∧ aL (decide (ls.getD a (0 : Int) ≤ ls.getD ((↑a : Int) - (1 : Int)).toNat (0 : Int))) ((5 : Int) = oe u l w ls ∧ True) (cq ((↑a : Int) + (1 : Int)) ∧ ∃ (a_3 : Nat), ls = ls ∧ (↑ls.length : Int) = (↑ls.length : Int) ∧ (↑a : Int) + (1 : Int) = (↑a_3 : Int) ∧ u = u ∧ l = l ∧ w = w ∧ ls = ls ∧ a_3 ≤ ls.length ∧ jT ls (0 : Nat) = jT ls a_3 ∧ ls.length - a_3 < ls.length - a)) (cq ((↑a : Int) + (1 : Int)) ∧ ∃ (a_3 : Nat), ls = ls ∧ (↑ls.length : Int) = (↑ls.length : Int) ∧ (↑a : Int) + (1 : Int) = (↑a_3 : Int) ∧ u = u ∧ l = l ∧ w = w ∧ ls = ls ∧ a_3 ≤ ls.length ∧ jT ls (0 : Nat) = jT ls a_3 ∧ ls.length - a_3 < ls.length - a)))) ((0 : Int) = oe u l w ls ∧ True))))))))))))))) (by kernel_rfl) ?_
 simp only [cZ, eu, dK, eL, iB, cq, and_true, true_and, eq_self]
 refine ⟨by omega, fun a1 => ?_, fun a1 => ⟨fun a2 => by omega, fun _ => ⟨fun a3 => ?_, fun a3 => ⟨fun _ => by omega, fun _ => ⟨by omega, by omega, fun a4 => ?_, fun a4 => ⟨fun a5 => ?_, fun a5 => ⟨fun a6 => ?_, fun a6 => ⟨fun a7 => ?_, fun a7 => ⟨by omega, by omega, ?_⟩⟩⟩⟩⟩⟩⟩⟩⟩
 ·rw [oe, if_pos (by omega)]
 ·rw [oe, if_neg (by omega), if_pos (by omega)]
 ·rw [oe, if_neg (by omega), if_neg (by omega), if_pos (by omega)]
 ·rw [oe, if_neg (by omega), if_neg (by omega), if_pos (by omega)]
 ·rw [oe, if_neg (by omega), if_neg (by omega), if_neg (by omega), if_pos (by omega)]
 ·rw [oe, if_neg (by omega), if_neg (by omega), if_neg (by omega), if_pos (by omega)]
 have e1 : ∀ (_ : u.all (oa 9) = false ∨ l.all (oa 9) = false ∨ w < 0 ∨ 2 < w), 1 = oe u l w ls := fun h => by rw [oe, if_neg (by omega), if_neg (by omega), if_neg (by omega), if_neg (by omega), if_pos h]
 rw [jH]
 refine ⟨fun b1 => ⟨by omega, ?_⟩, fun b1 => e1 (.inl b1)⟩
 rw [jH]
 refine ⟨fun b2 => ⟨fun b3 => e1 (.inr (.inr (.inl b3))), fun b3 => ⟨fun b4 => e1 (.inr (.inr (.inr b4))), fun b4 => ⟨fun b5 => ?_, fun b5 => ?_⟩⟩⟩, fun b2 => e1 (.inr (.inl b2))⟩
 ·rw [oe, if_neg (by omega), if_neg (by omega), if_neg (by omega), if_neg (by omega), if_neg (by rw [b1, b2]; simp; omega), if_pos (by omega)]
 have e : oe u l w ls = jT ls 0 := RQ (by omega) (by omega) (by omega) (by omega) (by rw [b1]; rfl) (by rw [b2]; rfl) (by omega) (by omega) (by omega)
 rw [e]
 refine ⟨⟨0, rfl, by omega, rfl, by omega⟩, fun i k1 k2 => ⟨fun k3 => ⟨by omega, fun k4 => ?_, fun k4 => ⟨fun k5 => ?_, fun k5 => ⟨fun k6 => ⟨by omega, by omega, fun k7 => ?_, fun k7 => ⟨by omega, i + 1, by omega, by omega, k2.trans (yh (by omega) (by omega) ?_), by omega⟩⟩, fun k6 => ⟨by omega, i + 1, by omega, by omega, k2.trans (yh (by omega) (by omega) (by omega)), by omega⟩⟩⟩⟩, fun k3 => ?_⟩⟩
 ·rw [k2, LY (by omega) (.inl k4)]
 ·rw [k2, LY (by omega) (.inr (by omega))]
 ·rw [k2, S3 (by omega) (by omega) ⟨by omega, by rw [show i - 1 = ((i : Int) - 1).toNat by omega]; exact k7⟩]
 ·rw [show i - 1 = ((i : Int) - 1).toNat by omega]; exact fun h => k7 h.2
 ·rw [k2, S4 (by omega)]
def T5 : gN := (T4.qp 8 fun a c => dS (D12 a c)).dQ 80 fun a => dS (D77 a)
def D13 : List TV → List TV → Dn
 | [.ptr 0 0, .agg [.sl (.int .i64) u .no, .sl (.int .i64) l .no, .val (.int .i64 w), .sl (.int .i64) ls .no]], [.sl (.int .i64) _ .no, .val (.int .u64 _)] => some ([Ok u l w ls], pcS fun u1 l1 w1 WM => [Ok u1 l1 w1 WM, u1 = l.map (9 - ·)],
  [(5, .ex (List Int) fun u1 => .ex (List Int) fun l1 => .ex Int fun w1 => .ex (List Int) fun WM => .ex (List Int) fun r => .ex Int fun z => .ex Nat fun i => .st { sl := [(6, bX i)], pl := [(0, BM r z), (3, [.sl cv ((l.take i).map (9 - ·)) (.nY 4), .sl cv l1 .no, bX w1, .sl cv WM .no])], own := [(3, 1)], eE := [i ≤ l.length, Ok u1 l1 w1 WM, l1.length = l.length], m := l.length - i })])
 | _, _ => none
theorem v13 : VC T5 Try.f9 [some gI] [some aN, some (.int .u64)] D13 := by
 intro a cs p s j h hp
 unfold D13 at h
 split at h <;> cases h
 rename_i u l w ls r z
 have h1 := hp.1
 refine sg (A := (3 : Int) ≤ (↑u.length : Int) ∧ (↑u.length : Int) ≤ (8 : Int) ∧ ∀ (a a_1 : List Int) (a_2 : Int) (a_3 a_4 : List Int) (a_5 : Int), Ok a a_1 a_2 a_3 → (↑a.length : Int) ≤ (↑u.length : Int) → (0 : Int) ≤ (↑u.length : Int) ∧ (↑u.length : Int) ≤ (100 : Int) ∧ ∀ (a a_7 : List Int) (a_8 : Int), (↑a.length : Int) = (↑u.length : Int) → kU a → (∃ (a_11 : List Int), ∃ (a_12 : List Int), ∃ (a_13 : Int), ∃ (a_14 : List Int), ∃ (a_15 : List Int), ∃ (a_16 : Int), ∃ (a_17 : Nat), (0 : Int) = (↑a_17 : Int) ∧ a_7 = a_15 ∧ a_8 = a_16 ∧ [] = List.map (fun (x : cv.den) => (9 : cv.den) - x) (List.take a_17 l) ∧ a = a_12 ∧ a_2 = a_13 ∧ a_3 = a_14 ∧ a_17 ≤ l.length ∧ Ok a_11 a_12 a_13 a_14 ∧ a_12.length = l.length ∧ l.length - a_17 < (1000000 : Nat)) ∧ ∀ (a a_11 : List Int) (a_12 : Int) (a_13 a_14 : List Int) (a_15 : Int) (a_16 : Nat), a_16 ≤ l.length → Ok a a_11 a_12 a_13 → a_11.length = l.length → aL (decide ((↑a_16 : Int) < (↑l.length : Int))) (((0 : Int) ≤ (↑a_16 : Int) ∧ (↑a_16 : Int) < (↑l.length : Int)) ∧ cq ((9 : Int) - l.getD a_16 (0 : Int)) ∧ (List.map (fun (x : cv.den) => (9 : cv.den) - x) (List.take a_16 l)).length + (1 : Nat) ≤ (1000000000 : Nat) ∧ cq ((↑a_16 : Int) + (1 : Int)) ∧ ∃ (a : List Int), ∃ (a_18 : List Int), ∃ (a_19 : Int), ∃ (a_20 : List Int), ∃ (a_21 : List Int), ∃ (a_22 : Int), ∃ (a_23 : Nat), (↑a_16 : Int) + (1 : Int) = (↑a_23 : Int) ∧ a_14 = a_21 ∧ a_15 = a_22 ∧ u = u ∧ l = l ∧ w = w ∧ ls = ls ∧ (0 : Int) = (0 : Int) ∧ List.map (fun (x : cv.den) => (9 : cv.den) - x) (List.take a_16 l) ++ [(9 : Int) - l.getD a_16 (0 : Int)] = List.map (fun (x : cv.den) => (9 : cv.den) - x) (List.take a_23 l) ∧ a_11 = a_18 ∧ a_12 = a_19 ∧ a_13 = a_20 ∧ a_23 ≤ l.length ∧ Ok a a_18 a_19 a_20 ∧ a_18.length = l.length ∧ l.length - a_23 < l.length - a_16) (∃ (a : List Int), ∃ (a_18 : List Int), ∃ (a_19 : Int), ∃ (a_20 : List Int), ∃ (a_21 : List Int), ∃ (a_22 : Int), List.map (fun (x : cv.den) => (9 : cv.den) - x) (List.take a_16 l) = a ∧ a_11 = a_18 ∧ a_12 = a_19 ∧ a_13 = a_20 ∧ a_14 = a_21 ∧ a_15 = a_22 ∧ Ok a a_18 a_19 a_20 ∧ a = List.map (fun (x : cv.den) => (9 : cv.den) - x) l ∧ True)) (by kernel_rfl) ?_
 simp only [cZ, eu, dK, eL, iB, cq, and_true, true_and, eq_self]
 have := h1.n3
 have := h1.n8
 have := h1.len
 refine ⟨by omega, by omega, fun u1 l1 w1 WM r1 z1 h2 h3 => ⟨by omega, by omega, fun o r2 z2 h4 h5 => ⟨⟨o, o, w1, WM, r2, z2, 0, rfl, rfl, rfl, rfl, rfl, rfl, rfl, by omega, ⟨by omega, by omega, rfl, h5, h5, h2.w0, h2.w2, h2.ne, h2.CY, h2.PM⟩, by omega, by omega⟩, fun u3 o w ls r3 z3 i h6 h7 h8 => ⟨fun h9 => ?_, fun h9 => ?_⟩⟩⟩⟩
 ·have := h1.hl _ (fT (l := l) (i := i) (by omega))
  exact ⟨by omega, by omega, by simp; omega, by omega, u3, o, w, ls, r3, z3, i + 1, by omega, rfl, rfl, Ab (f := fun x => 9 - x) (by omega), rfl, rfl, rfl, by omega, h7, h8, by omega⟩
 ·rw [show i = l.length by omega, List.take_length]
  exact ⟨_, o, w, ls, r3, z3, rfl, rfl, rfl, rfl, rfl, rfl, Oe h7 h8 h1.hl, rfl⟩
def D59 : List TV → Dn
 | [.sl (.pair (.sl (.int .i64)) (.pair (.sl (.int .i64)) (.pair (.int .i64) (.pair (.sl (.int .i64)) .unit)))) l .no] => some ([l.length ≤ 1000, ∀ p ∈ l, jJ p], .res (bX (gD l)) [] [],
  [(3, .ex Nat fun i => .st { sl := [(8, bX i)], eE := [i ≤ l.length, gD (l.take i) = 0], m := l.length - i })])
 | _ => none
theorem v59 : VI T5 Try.f66 [some cv] D59 := by
 intro a p s j h hp
 unfold D59 at h
 split at h <;> cases h
 rename_i l
 obtain ⟨h1, h2, -⟩ := hp
 refine sg (A := (∃ (a : Nat), (0 : Int) = (↑a : Int) ∧ a ≤ l.length ∧ gD (List.take a l) = (0 : Int) ∧ l.length - a < (1000000 : Nat)) ∧ ∀ (a : Nat), a ≤ l.length → gD (List.take a l) = (0 : Int) → aL (decide ((↑a : Int) < (↑l.length : Int))) (((0 : Int) ≤ (↑a : Int) ∧ (↑a : Int) < (↑l.length : Int)) ∧ Sh (l.getD a ([], [], (0 : Int), [], ())).fst (l.getD a ([], [], (0 : Int), [], ())).snd.fst (l.getD a ([], [], (0 : Int), [], ())).snd.snd.snd.fst ∧ aL (oe (l.getD a ([], [], (0 : Int), [], ())).fst (l.getD a ([], [], (0 : Int), [], ())).snd.fst (l.getD a ([], [], (0 : Int), [], ())).snd.snd.fst (l.getD a ([], [], (0 : Int), [], ())).snd.snd.snd.fst != (0 : Int)) (oe (l.getD a ([], [], (0 : Int), [], ())).fst (l.getD a ([], [], (0 : Int), [], ())).snd.fst (l.getD a ([], [], (0 : Int), [], ())).snd.snd.fst (l.getD a ([], [], (0 : Int), [], ())).snd.snd.snd.fst = gD l ∧ True) (cq ((↑a : Int) + (1 : Int)) ∧ ∃ (a_3 : Nat), l = l ∧ (↑l.length : Int) = (↑l.length : Int) ∧ (↑a : Int) + (1 : Int) = (↑a_3 : Int) ∧ a_3 ≤ l.length ∧ gD (List.take a_3 l) = (0 : Int) ∧ l.length - a_3 < l.length - a)) ((0 : Int) = gD l ∧ True)) (by kernel_rfl) ?_
 simp only [cZ, eu, dK, eL, iB, cq, and_true, true_and, eq_self]
 refine ⟨⟨0, rfl, by omega, rfl, by omega⟩, fun i k1 k2 => ⟨fun k3 => ⟨by omega, OB (P := jJ) (by omega) h2, fun k4 => ⟨by omega, i + 1, by omega, by omega, OT (by omega) k2 k4, by omega⟩, fun k4 => (RR (by omega) k2 k4).symm⟩, fun k3 => ?_⟩⟩
 rw [show i = l.length by omega, List.take_length] at k2
 rw [k2]
def T6 : gN := (T5.qp 9 fun a c => dS (D13 a c)).dQ 66 fun a => dS (D59 a)
def T7 : gN := T6
def T8 : gN := T7
section
variable {aZ : bq} (tk : sC aZ)
include tk
theorem Ut : lg aZ 5 T5 := rV tk (Uu tk) (by decide) Try.func80 rfl v77 (I1 (Uu tk) Try.func8 rfl v12 (iW (Uu tk)))
theorem Us : lg aZ 6 T6 := rV tk (Ut tk) (by decide) Try.func66 rfl v59 (I1 (Ut tk) Try.func9 rfl v13 (iW (Ut tk)))
end
end Go.Tv
end
section
namespace Go.Tv
open Go Go.Di Go.Proofs
end Go.Tv
end
section
namespace Go.Tv
open Go Go.Di Go.Proofs
def Vw (la ub:List Int) (nb k:Nat):List Int:=((List.range k).map fun(j:Nat)=>(j:Int)-(nb:Int)).filterMap fun s=>if 3≤(stA la ub s).2.2 then some ((stA la ub s).2.1-(stA la ub s).1) else none
def Vu (ua la:List Int) (x:Int) (ub lb:List Int) (y:Int):List Int:=Vw (aT x ua la) (aR y ub lb) ub.length (ub.length+ua.length+1)
def Vv (ua la ub lb ys:List Int) (x:Int):List Int:=ys.flatMap (Vu ua la x ub lb)
def aa9 (ua la R7 ub lb R6:List Int):List Int:=R7.flatMap (Vv ua la ub lb R6)
theorem sV {n:Int} {u l:List Int} (h:l.length=u.length):(aR n u l).length=u.length∧(aT n u l).length=u.length:=by
 unfold aR aT
 constructor<;>(repeat' split)<;>simp[h]
theorem Ry {l:List Int} (h:kU l):kU l.reverse:=fun x hx=>h x (List.mem_reverse.1 hx)
theorem BU {n:Int} {u l:List Int} (h1:kU u) (h2:kU l):kU (aR n u l)∧kU (aT n u l):=by
 unfold aR aT
 constructor<;>(repeat' split)<;>first | assumption | exact Ry (by assumption)
theorem fu {l:List Int} {f:Int→List Int} {c:Nat} (h:∀ x,(f x).length≤c):(l.flatMap f).length≤l.length*c:=by
 induction l with
 | nil=>simp
 | cons x l ih =>
  rw[List.flatMap_cons,List.length_append,List.length_cons,Nat.succ_mul]
  have:=h x
  omega
end Go.Tv
end
section
namespace Go.Tv
open Go Go.Di Go.Proofs
set_option maxRecDepth 100000
structure LI (aZ:bq):Prop where
 rev:∀ (l:List Int) d,l.length≤1000000→RT eD [] (.sl cv l .no) d→∃ r,aZ 83 [d]=some r∧r.pure=true∧RT eD [] (.sl cv l.reverse .no) r
def Vf:List TV→Sp
 | [.sl (.int .i64) l .no]=>some ([l.length≤1000000],.res (.sl cv l.reverse .no) [] [])
 | _=>none
def D79:List TV→Dn
 | [.sl (.int .i64) l .no]=>some ([l≠[],l.length≤1000],.res (.sl cv l .no) [] [],[])
 | _=>none
theorem v79:VI T0 Try.f95 [some aN] D79:=by
 intro a p s j h hp
 unfold D79 at h
 split at h<;>cases h
 rename_i l
 change List Int at l
 obtain⟨h1,h2,-⟩:=hp
 refine sg (A:=l≠[]∧(0:Nat)+l.length≤(1000000000:Nat)∧l=l∧True) (by kernel_rfl) ?_
 exact⟨h1,by omega,rfl,trivial⟩
def D98:List TV→Dn
 | [.sl (.int .i64) l .no,.val (.int .i64 x)]=>some ([l.length≤1000],.res (bX (oE l x)) [] [],[(3,.ex Nat fun i => .st { sl:=[(8,bX i)],eE:=[i≤l.length,x ∉ l.take i],m:=l.length-i })])
 | _=>none
theorem v98:VI T0 Try.f82 [some cv] D98:=by
 intro a p s j h hp
 unfold D98 at h
 split at h<;>cases h
 rename_i l x
 change List Int at l
 have h1:=hp.1
 refine sg (A:=(∃ (a:Nat),(0:Int)=(↑a:Int)∧a≤l.length∧¬x∈List.take a l∧l.length-a<(1000000:Nat))∧∀ (a:Nat),a≤l.length→¬x∈List.take a l→aL (decide ((↑a:Int)<(↑l.length:Int))) (((0:Int)≤(↑a:Int)∧(↑a:Int)<(↑l.length:Int))∧aL (x==l.getD a (0:Int)) ((↑a:Int)=oE l x∧True) (cq ((↑a:Int)+(1:Int))∧∃ (a_3:Nat),l=l∧x=x∧(↑l.length:Int)=(↑l.length:Int)∧(↑a:Int)+(1:Int)=(↑a_3:Int)∧a_3≤l.length∧¬x∈List.take a_3 l∧l.length-a_3<l.length-a)) ((-1:Int)=oE l x∧True)) (by kernel_rfl) ?_
 simp only[cZ,eu,dK,eL,iB,cq,and_true,true_and,eq_self]
 refine⟨⟨0,by omega,by omega,by simp,by omega⟩,fun i h2 h3=>⟨fun h4=>⟨by omega,fun h5 => ?_,fun h5=>⟨by omega,i+1,by omega,by omega,?_,by omega⟩⟩,fun h4 => ?_⟩⟩
 ·rw[Kn (by omega) h3 h5.symm]
 ·rw[take_one (by omega)]; simp only[List.mem_append,List.mem_singleton,not_or]; exact⟨h3,h5⟩
 ·rw[show i=l.length by omega,List.take_length] at h3; rw[oE,if_neg h3]
def D99:List TV→Dn
 | [.agg [.sl (.int .i64) u .no,.sl (.int .i64) l .no]]=>some ([],.res (Yi u l) [] [],[])
 | _=>none
theorem v99:VI T0 Try.f73 [some (.pair aN (.pair aN .unit))] D99:=by
 intro a p s j h hp
 unfold D99 at h
 split at h<;>cases h
 rename_i u l
 refine sg (A:=u=u∧l=l∧True) (by kernel_rfl) ?_
 exact⟨rfl,rfl,trivial⟩
def T0r:gN:=T0.dQ 83 Vf
def Vp:List TV→Dn
 | [.agg [.sl (.int .i64) u .no,.sl (.int .i64) l .no]]=>some ([u.length≤1000,l.length≤1000],.res (Yi l.reverse u.reverse) [] [],[])
 | _=>none
theorem Yq:VI T0r Try.f74 [some (.pair aN (.pair aN .unit))] Vp:=by
 intro a p s j h hp
 unfold Vp at h
 split at h<;>cases h
 rename_i u l
 obtain⟨h1,h2,-⟩:=hp
 refine sg (A:=l.length≤(1000000:Nat)∧u.length≤(1000000:Nat)∧l.reverse=l.reverse∧u.reverse=u.reverse∧True) (by kernel_rfl) ?_
 exact⟨by omega,by omega,rfl,rfl,trivial⟩
def Vo:List TV→Dn
 | [.agg [.sl (.int .i64) u .no,.sl (.int .i64) l .no]]=>some ([u.length≤1000,l.length≤1000],.res (Yi u.reverse l.reverse) [] [],[])
 | _=>none
theorem Yp:VI T0r Try.f75 [some (.pair aN (.pair aN .unit))] Vo:=by
 intro a p s j h hp
 unfold Vo at h
 split at h<;>cases h
 rename_i u l
 obtain⟨h1,h2,-⟩:=hp
 refine sg (A:=u.length≤(1000000:Nat)∧l.length≤(1000000:Nat)∧u.reverse=u.reverse∧l.reverse=l.reverse∧True) (by kernel_rfl) ?_
 exact⟨by omega,by omega,rfl,rfl,trivial⟩
def Vn:List TV→Dn
 | [.agg [.sl (.int .i64) u .no,.sl (.int .i64) l .no]]=>some ([],.res (Yi l u) [] [],[])
 | _=>none
theorem Yo:VI T0 Try.f76 [some (.pair aN (.pair aN .unit))] Vn:=by
 intro a p s j h hp
 unfold Vn at h
 split at h<;>cases h
 rename_i u l
 refine sg (A:=l=l∧u=u∧True) (by kernel_rfl) ?_
 exact⟨rfl,rfl,trivial⟩
def U1:gN:=(((((T0r.dQ 95 fun a=>dS (D79 a)).dQ 82 fun a=>dS (D98 a)).dQ 73 fun a=>dS (D99 a)).dQ 74 fun a=>dS (Vp a)).dQ 75 fun a=>dS (Vo a)).dQ 76 fun a=>dS (Vn a)
def D80:List TV→Dn
 | [.sl (.int .i64) l .no,.val (.int .i64 x)]=>some ([l.length≤1000],.res (mX (decide (x∈l))) [] [],[])
 | _=>none
theorem v80:VI U1 Try.f72 [some .bool] D80:=by
 intro a p s j h hp
 unfold D80 at h
 split at h<;>cases h
 rename_i l x
 change List Int at l
 have h1:=hp.1
 refine sg (A:=l.length≤(1000:Nat)∧decide (oE l x≥(0:Int))=decide (x∈l)∧True) (by kernel_rfl) ?_
 refine⟨h1,?_,trivial⟩
 rw[decide_eq_decide,oE]
 split<;>simp_all
def D83:List TV→Dn
 | [.val (.int .i64 n),.agg [.sl (.int .i64) u .no,.sl (.int .i64) l .no]]=>some ([u.length≤1000,l.length≤1000,0≤n,n≤3],.res (Yi (aR n u l) (aT n u l)) [] [],[])
 | _=>none
theorem v83:VI U1 Try.f57 [some (.pair aN (.pair aN .unit))] D83:=by
 intro a p s j h hp
 unfold D83 at h
 split at h<;>cases h
 rename_i n u l
 obtain⟨h1,h2,h3,h4,-⟩:=hp
 refine sg (A:=aL (decide (n=(0:Int))) (u=aR n u l∧l=aT n u l∧True) (aL (decide (n=(1:Int))) (u.length≤(1000:Nat)∧l.length≤(1000:Nat)∧l.reverse=aR n u l∧u.reverse=aT n u l∧True) (aL (decide (n=(2:Int))) (u.length≤(1000:Nat)∧l.length≤(1000:Nat)∧u.reverse=aR n u l∧l.reverse=aT n u l∧True) (aL (decide (n=(3:Int))) (l=aR n u l∧u=aT n u l∧True) False)))) (by kernel_rfl) ?_
 have e:n=0∨n=1∨n=2∨n=3:=by omega
 rcases e with rfl | rfl | rfl | rfl
 ·exact⟨rfl,rfl,trivial⟩
 ·exact⟨h1,h2,rfl,rfl,trivial⟩
 ·exact⟨h1,h2,rfl,rfl,trivial⟩
 ·exact⟨rfl,rfl,trivial⟩
def U2:gN:=(U1.dQ 72 fun a=>dS (D80 a)).dQ 57 fun a=>dS (D83 a)
abbrev Xq (u l:List Int) (w:Int) (ls:List Int):TV := .agg [.sl cv u .no,.sl cv l .no,bX w,.sl cv ls .no,.sl cv u .no,.sl cv l .no,.sl cv l.reverse .no,.sl cv u.reverse .no,.sl cv u.reverse .no,.sl cv l.reverse .no,.sl cv l .no,.sl cv u .no]
def Yn:List TV→Dn
 | [.agg [.sl (.int .i64) u .no,.sl (.int .i64) l .no,.val (.int .i64 w),.sl (.int .i64) ls .no]]=>some ([u.length≤1000,l.length≤1000],.res (Xq u l w ls) [] [],[(4,.un 5)])
 | _=>none
theorem v50:VI U2 Try.f32 [none] Yn:=by
 refine nN fun a => ?_
 unfold Yn
 split
 rotate_left
 ·trivial
 rename_i u l w ls
 intro hp
 refine G3 (A:=u.length≤(1000:Nat)∧l.length≤(1000:Nat)∧(0:Int)≤(0:Int)∧(0:Int)≤(3:Int)∧True∧cq (1:Int)∧u.length≤(1000:Nat)∧l.length≤(1000:Nat)∧(0:Int)≤(1:Int)∧(1:Int)≤(3:Int)∧True∧cq (2:Int)∧u.length≤(1000:Nat)∧l.length≤(1000:Nat)∧(0:Int)≤(2:Int)∧(2:Int)≤(3:Int)∧True∧cq (3:Int)∧u.length≤(1000:Nat)∧l.length≤(1000:Nat)∧(0:Int)≤(3:Int)∧(3:Int)≤(3:Int)∧True∧cq (4:Int)∧u=u∧l=l∧w=w∧ls=ls∧aR (0:Int) u l=u∧aT (0:Int) u l=l∧aR (1:Int) u l=l.reverse∧aT (1:Int) u l=u.reverse∧aR (2:Int) u l=u.reverse∧aT (2:Int) u l=l.reverse∧aR (3:Int) u l=l∧aT (3:Int) u l=u∧True) (by kernel_rfl) ?_
 obtain⟨h1,h2,-⟩:=hp
 simp only[cq]
 repeat' (first | exact h1 | exact h2 | omega | rfl | trivial | apply And.intro)
section
variable {aZ:bq} (tk:sC aZ) (tr:LI aZ)
theorem jI {k:Nat} {T:gN} (h:lg aZ k T):∀ m,lg aZ (m+k) T
 | 0=>by rwa [Nat.zero_add]
 | m+1=>by have:=iW (jI h m); rwa [Nat.add_right_comm] at this
theorem Gb {T:gN} {k:Nat} (tr:LI aZ) (hT:lg aZ k T):lg aZ k (T.dQ 83 Vf):=Hp hT fun n a p s hs hp=>by
 unfold Vf at hs
 split at hs
 ·rename_i l
  cases hs
  intro bY hd
  obtain⟨d,_,rfl,h1,h2⟩:=aj hd
  rw[aM h2]
  obtain⟨r,k1,k2,k3⟩:=tr.rev l d hp.1 h1
  exact⟨r,_,by simp only[vY,iC,k1,k2,if_true],k2,k3,rfl,rfl,trivial⟩
 ·cases hs
include tk tr
theorem Uq:lg aZ 1 U1:=rV tk (iz tk) (by decide) Try.func76 rfl Yo (rV tk (Gb tr (iz tk)) (by decide) Try.func75 rfl Yp (rV tk (Gb tr (iz tk)) (by decide) Try.func74 rfl Yq (rV tk (iz tk) (by decide) Try.func73 rfl v99 (rV tk (iz tk) (by decide) Try.func82 rfl v98 (rV tk (iz tk) (by decide) Try.func95 rfl v79 (iW (Gb tr (iz tk))))))))
theorem Yr:lg aZ 2 U2:=rV tk (Uq tk tr) (by decide) Try.func57 rfl v83 (rV tk (Uq tk tr) (by decide) Try.func72 rfl v80 (iW (Uq tk tr)))
def W8:gN:=((T8.dQ 95 fun a=>dS (D79 a)).dQ 72 fun a=>dS (D80 a)).dQ 32 fun a=>dS (Yn a)
end
end Go.Tv
end
section
namespace Go.Tv
open Go Go.Di Go.Proofs
variable {P:Program}
def vp (kt:TT) (x:kt.den):List kt.den→Nat→Option (Nat×Value)
 | [],_=>none
 | y::l,i=>bif @decide (x=y) (wj kt x y) then some (i,.bool true) else vp kt x l (i+1)
theorem uQ {kt:TT} {x:kt.den}:∀ {l:List kt.den} {i:Nat},(dA kt x l=true∧∃ j,vp kt x l i=some (i+j,.bool true)∧l[j]? = some x)∨(dA kt x l=false∧vp kt x l i=none)
 | [],i => .inr ⟨rfl,rfl⟩
 | y::l,i=>by
  simp only[vp,dA,List.any_cons]
  cases h:@decide (x=y) (wj kt x y)
  ·rcases @uQ kt x l (i+1) with ⟨h1,j,h2,h3⟩ | ⟨h1,h2⟩
   ·refine .inl ⟨h1,j+1,?_,by simpa using h3⟩
    rw[cond_false,h2,show i+1+j=i+(j+1) by omega]
   ·exact .inr ⟨h1,h2⟩
  ·have hx:x=y:=@of_decide_eq_true _ (wj kt x y) h
   exact .inl ⟨rfl,0,rfl,by rw[hx]; rfl⟩
theorem Bq {key:TypeId} {kt:TT} (he:∀ x y,bp P (Op.equal key (iQ kt x) (iQ kt y))=some (@decide (x=y) (wj kt x y))) (x:kt.den):∀ (l:List kt.den) (i:Nat),bp P (Instr.findAsking key (iQ kt x) ((mW kt l).map Di.G5) i)=some (vp kt x l i)
 | [],i=>rfl
 | y::l,i=>by
  simp only[mW,List.map_cons,Instr.findAsking,bJ,Di.G5,he x y,Option.bind_some,vp]
  cases @decide (x=y) (wj kt x y)
  ·simp only[Bool.false_eq_true,if_false,cond_false]
   exact Bq he x l (i+1)
  ·rfl
theorem MK {key:TypeId} {td:TypeDesc} {kt:TT} (hk:P.underlying key=some td) (hn:∀ x y,Instr.sameNow td (iQ kt x) (iQ kt y)=none) (he:∀ x y,bp P (Op.equal key (iQ kt x) (iQ kt y))=some (@decide (x=y) (wj kt x y))) (x:kt.den) (l:List kt.den):bp P (Instr.findKey key (iQ kt x) ((mW kt l).map Di.G5))=some (vp kt x l 0):=by
 simp only[Instr.findKey,bJ,dH hk,Option.bind_some]
 cases l with
 | nil=>rfl
 | cons y l =>
  simp only[mW,List.map_cons,Instr.findNow,Di.G5,hn x y]
  exact Bq he x (y::l) 0
theorem Oo {t key elem:TypeId} {kt:TT} {td:TypeDesc} (hu:P.underlying t=some (.map key elem)) (hk:P.underlying key=some td) (hn:∀ x y,Instr.sameNow td (iQ kt x) (iQ kt y)=none) (hz:bp P (zeroValue elem)=some (.bool false)) (hc:∀ b x,bp P (Instr.checkKey b 10000 key (iQ kt x))=some ()) (he:∀ x y,bp P (Op.equal key (iQ kt x) (iQ kt y))=some (@decide (x=y) (wj kt x y)))
  (hs:∀ x,Instr.sameBits 10000 (iQ kt x) (iQ kt x)=true):qG P t kt where
 look:=fun x l=>by
  simp only[Dl,bJ,dH hu,Option.bind_some,hc,MK hk hn he x l]
  rcases @uQ kt x l 0 with ⟨h1,j,h2,-⟩ | ⟨h1,h2⟩
  ·rw[h1,h2]; rfl
  ·rw[h1,h2]
   simp only[bJ,hz,Option.bind_some]
   rfl
 find:=fun x l=>by
  refine⟨vp kt x l 0,?_,?_⟩
  ·simp only[Dw,bJ,dH hu,Option.bind_some,hc,MK hk hn he x l]
  ·rcases @uQ kt x l 0 with ⟨h1,j,h2,h3⟩ | ⟨h1,h2⟩
   ·rw[h2]
    have e:(mW kt l)[0+j]? = some (iQ kt x,.bool true):=by simp[mW,h3]
    simp only[Fu,e,hs,if_true,cH,h1,cond_true,Option.some.injEq]
    refine List.ext_getElem? fun i => ?_
    rw[List.getElem?_set]
    split
    ·rename_i e1; subst e1
     rw[e,if_pos (List.getElem?_eq_some_iff.1 e).1]
    ·rfl
   ·rw[h2]
    simp only[Fu,cH,h1,cond_false,Option.some.injEq]
    simp[mW]
end Go.Tv
end
