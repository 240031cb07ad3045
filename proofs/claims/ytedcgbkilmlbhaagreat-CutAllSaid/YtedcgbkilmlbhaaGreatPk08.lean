import Derived.Test.YtedcgbkilmlbhaaGreatPk07
section
namespace Go.Tv
open Go Go.Di Go.Proofs
set_option maxRecDepth 100000
abbrev diceS (v:Int→TV) (f:Int→List Prop):SpT := .ex Int fun k => .ex (List Int) fun r => .ex Int fun z => .res (v k) (dice r z) (f k)
def D81:List TV→List TV→Dn
 | [.ptr 0 0],[.sl (.int .i64) _ .no,.val (.int .u64 z)]=>some ([],diceS (fun k => .val (.int .u64 k)) fun k=>[0≤k,k<4294967296],[(2,.ex Int fun k => .ex (List Int) fun r => .st { sl:=[(3,.val (.int .u64 k))],pl:=[(0,dice r z)] })])
 | _,_=>none
theorem v81:VC T0 Tryz.f58 [some (.int .u64)] [some IntsT,some (.int .u64)] D81:=by
 intro a cs p s j h hp
 unfold D81 at h
 split at h<;>cases h
 rename_i r z
 refine vcp (A:=vcIf (decide ((↑r.length:Int)>(0:Int))) (((0:Int)≤(0:Int)∧(0:Int)<(↑r.length:Int))∧((0:Int)≤(1:Int)∧(1:Int)≤(↑r.length:Int))∧∃ (a:Int),∃ (a_1:List Int),(0:Int)=(0:Int)∧IntKind.u64.wrap (r.getD (0:Nat) (0:Int))=a∧List.drop (1:Nat) r=a_1∧z=z∧True) (∃ (a:Int),∃ (a_1:List Int),(0:Int)=(0:Int)∧(0:Int)=a∧r=a_1∧z=z∧True)∧∀ (a:Int) (a_1:List Int),∃ (a_2:Int),∃ (a_3:List Int),∃ (a_4:Int),(IntKind.u64.wrap (IntKind.u64.wrap (↑(BitVec.ofInt (64:Nat) (IntKind.u64.wrap (↑(BitVec.ofInt (64:Nat) (IntKind.u64.wrap (IntKind.u64.wrap (IntKind.u64.wrap (z+a)+(6364136223846793005:Int))*(15074714826142052245:Int))) ^^^ BitVec.ofInt (64:Nat) ((IntKind.u64.wrap (IntKind.u64.wrap (IntKind.u64.wrap (z+a)+(6364136223846793005:Int))*(15074714826142052245:Int))).fdiv (536870912:Int))).toNat:Int)) ^^^ BitVec.ofInt (64:Nat) ((IntKind.u64.wrap (↑(BitVec.ofInt (64:Nat) (IntKind.u64.wrap (IntKind.u64.wrap (IntKind.u64.wrap (z+a)+(6364136223846793005:Int))*(15074714826142052245:Int))) ^^^ BitVec.ofInt (64:Nat) ((IntKind.u64.wrap (IntKind.u64.wrap (IntKind.u64.wrap (z+a)+(6364136223846793005:Int))*(15074714826142052245:Int))).fdiv (536870912:Int))).toNat:Int)).fdiv (8589934592:Int))).toNat:Int)*(18397679294719823053:Int))).fdiv (4294967296:Int)=a_2∧a_1=a_3∧IntKind.u64.wrap (↑(BitVec.ofInt (64:Nat) (IntKind.u64.wrap (IntKind.u64.wrap (IntKind.u64.wrap (z+a)+(6364136223846793005:Int))*(15074714826142052245:Int))) ^^^ BitVec.ofInt (64:Nat) ((IntKind.u64.wrap (IntKind.u64.wrap (IntKind.u64.wrap (z+a)+(6364136223846793005:Int))*(15074714826142052245:Int))).fdiv (536870912:Int))).toNat:Int)=a_4∧(0:Int)≤a_2∧a_2<(4294967296:Int)∧True) (by kernel_rfl) ?_
 simp only[vc_dec,vc_beq,vc_bne,vc_not,nil_e,rng,and_true,true_and,eq_self]
 refine⟨⟨fun h=>⟨by omega,by omega,_,_,rfl,rfl⟩,fun h=>⟨_,_,rfl,rfl⟩⟩,fun k r1=>⟨_,_,_,rfl,rfl,rfl,(hi_of rfl).1,(hi_of rfl).2⟩⟩
def D11:List TV→Dn
 | [.sl (.int .i64) l .no]=>some ([],.res .unk (dice l 1) [],[])
 | _=>none
theorem v11:VN T0 Tryz.f13 [some IntsT,some (.int .u64)] D11:=by
 intro a p s j h hp
 unfold D11 at h
 split at h<;>cases h
 rename_i l
 refine vcp (A:=l=l∧(1:Int)=(1:Int)∧True) (by kernel_rfl) ?_
 exact⟨rfl,rfl,trivial⟩
def D60:List TV→Dn
 | [.agg [.sl (.int .i64) ua .no,.sl (.int .i64) la .no],.agg [.sl (.int .i64) ub .no,.sl (.int .i64) lb .no],.val (.int .i64 s)]=>some ([la.length≤1000,ub.length≤1000,inH la,inH ub],.res (.tup [ival (stA la ub s).1,ival (stA la ub s).2.1,ival (stA la ub s).2.2]) [] [],
  [(6,.ex Nat fun i => .ex Int fun lo => .ex Int fun hi => .ex Int fun m => .st { sl:=[(6,ival lo),(7,ival hi),(8,ival m),(29,ival i)],good:=[i≤ub.length,0≤m,m≤i,stF (colL la ub s i)=(lo,hi,m)],m:=ub.length-i })])
 | _=>none
theorem v60:VI T0 Tryz.f78 [some I64,some I64,some I64] D60:=by
 intro a p s j h hp
 unfold D60 at h
 split at h<;>cases h
 rename_i ua la ub lb s
 obtain⟨h1,h2,h5,h6,-⟩:=hp
 refine vcp (A:=rng (-(↑ub.length:Int))∧vcIf (decide (s ≤ -(↑ub.length:Int))) ((0:Int)=(stA la ub s).fst∧(0:Int)=(stA la ub s).snd.fst∧(0:Int)=(stA la ub s).snd.snd∧True) (vcIf (decide (s≥(↑la.length:Int))) ((0:Int)=(stA la ub s).fst∧(0:Int)=(stA la ub s).snd.fst∧(0:Int)=(stA la ub s).snd.snd∧True) ((∃ (a:Nat),∃ (a_1:Int),∃ (a_2:Int),∃ (a_3:Int),(0:Int)=a_1∧(0:Int)=a_2∧(0:Int)=a_3∧(0:Int)=(↑a:Int)∧a≤ub.length∧(0:Int)≤a_3∧a_3≤(↑a:Int)∧stF (colL la ub s a)=(a_1,a_2,a_3)∧ub.length-a<(1000000:Nat))∧∀ (a:Nat) (a_1 a_2 a_3:Int),a≤ub.length→(0:Int)≤a_3→a_3≤(↑a:Int)→stF (colL la ub s a)=(a_1,a_2,a_3)→vcIf (decide ((↑a:Int)<(↑ub.length:Int))) (((0:Int)≤(↑a:Int)∧(↑a:Int)<(↑ub.length:Int))∧rng ((↑a:Int)+s)∧vcIf (decide ((↑a:Int)+s<(0:Int))) (rng ((↑a:Int)+(1:Int))∧∃ (a_8:Nat),∃ (a_9:Int),∃ (a_10:Int),∃ (a_11:Int),s=s∧a_1=a_9∧a_2=a_10∧a_3=a_11∧ub=ub∧(↑ub.length:Int)=(↑ub.length:Int)∧(↑a:Int)+(1:Int)=(↑a_8:Int)∧ua=ua∧la=la∧ub=ub∧lb=lb∧a_8≤ub.length∧(0:Int)≤a_11∧a_11≤(↑a_8:Int)∧stF (colL la ub s a_8)=(a_9,a_10,a_11)∧ub.length-a_8<ub.length-a) (vcIf (decide ((↑a:Int)+s≥(↑la.length:Int))) (rng ((↑a:Int)+(1:Int))∧∃ (a_8:Nat),∃ (a_9:Int),∃ (a_10:Int),∃ (a_11:Int),s=s∧a_1=a_9∧a_2=a_10∧a_3=a_11∧ub=ub∧(↑ub.length:Int)=(↑ub.length:Int)∧(↑a:Int)+(1:Int)=(↑a_8:Int)∧ua=ua∧la=la∧ub=ub∧lb=lb∧a_8≤ub.length∧(0:Int)≤a_11∧a_11≤(↑a_8:Int)∧stF (colL la ub s a_8)=(a_9,a_10,a_11)∧ub.length-a_8<ub.length-a) (((0:Int)≤(↑a:Int)+s∧(↑a:Int)+s<(↑la.length:Int))∧rng (ub.getD a (0:Int)+la.getD ((↑a:Int)+s).toNat (0:Int))∧vcIf (a_3==(0:Int)) (rng (a_3+(1:Int))∧rng ((↑a:Int)+(1:Int))∧∃ (a_8:Nat),∃ (a_9:Int),∃ (a_10:Int),∃ (a_11:Int),s=s∧(if ub.getD a (0:Int)+la.getD ((↑a:Int)+s).toNat (0:Int)<ub.getD a (0:Int)+la.getD ((↑a:Int)+s).toNat (0:Int) then ub.getD a (0:Int)+la.getD ((↑a:Int)+s).toNat (0:Int) else ub.getD a (0:Int)+la.getD ((↑a:Int)+s).toNat (0:Int))=a_9∧(if ub.getD a (0:Int)+la.getD ((↑a:Int)+s).toNat (0:Int)>ub.getD a (0:Int)+la.getD ((↑a:Int)+s).toNat (0:Int) then ub.getD a (0:Int)+la.getD ((↑a:Int)+s).toNat (0:Int) else ub.getD a (0:Int)+la.getD ((↑a:Int)+s).toNat (0:Int))=a_10∧a_3+(1:Int)=a_11∧ub=ub∧(↑ub.length:Int)=(↑ub.length:Int)∧(↑a:Int)+(1:Int)=(↑a_8:Int)∧ua=ua∧la=la∧ub=ub∧lb=lb∧a_8≤ub.length∧(0:Int)≤a_11∧a_11≤(↑a_8:Int)∧stF (colL la ub s a_8)=(a_9,a_10,a_11)∧ub.length-a_8<ub.length-a) (rng (a_3+(1:Int))∧rng ((↑a:Int)+(1:Int))∧∃ (a_8:Nat),∃ (a_9:Int),∃ (a_10:Int),∃ (a_11:Int),s=s∧(if ub.getD a (0:Int)+la.getD ((↑a:Int)+s).toNat (0:Int)<a_1 then ub.getD a (0:Int)+la.getD ((↑a:Int)+s).toNat (0:Int) else a_1)=a_9∧(if ub.getD a (0:Int)+la.getD ((↑a:Int)+s).toNat (0:Int)>a_2 then ub.getD a (0:Int)+la.getD ((↑a:Int)+s).toNat (0:Int) else a_2)=a_10∧a_3+(1:Int)=a_11∧ub=ub∧(↑ub.length:Int)=(↑ub.length:Int)∧(↑a:Int)+(1:Int)=(↑a_8:Int)∧ua=ua∧la=la∧ub=ub∧lb=lb∧a_8≤ub.length∧(0:Int)≤a_11∧a_11≤(↑a_8:Int)∧stF (colL la ub s a_8)=(a_9,a_10,a_11)∧ub.length-a_8<ub.length-a)))) (a_1=(stA la ub s).fst∧a_2=(stA la ub s).snd.fst∧a_3=(stA la ub s).snd.snd∧True)))) (by kernel_rfl) ?_
 simp only[vc_dec,stA,vc_beq,vc_bne,vc_not,nil_e,rng,and_true,true_and,eq_self]
 refine⟨by omega,fun h=>by rw[colL_none (.inl h)]; exact⟨rfl,rfl,rfl⟩,fun _=>⟨fun h=>by rw[colL_none (.inr h)]; exact⟨rfl,rfl,rfl⟩,fun h=>⟨⟨0,0,0,0,rfl,rfl,rfl,rfl,by omega,by omega,by omega,rfl,by omega⟩,fun i lo hi m k1 k2 k3 k4=>⟨fun k5=>⟨by omega,by omega,fun k6=>⟨by omega,i+1,lo,hi,m,rfl,rfl,rfl,by omega,by omega,by omega,by omega,by rw[colL,if_neg (by omega)]; exact k4,by omega⟩,fun k6=>⟨fun k7=>⟨by omega,i+1,lo,hi,m,rfl,rfl,rfl,by omega,by omega,by omega,by omega,by rw[colL,if_neg (by omega)]; exact k4,by omega⟩,fun k7 => ?_⟩⟩,fun k5 => ?_⟩⟩⟩⟩
 ·have e1:=inH_at h6 (i:=i) (by omega)
  have e2:=inH_at h5 (i:=((i:Int)+s).toNat) (by omega)
  exact⟨by omega,by omega,fun k8=>⟨by omega,by omega,i+1,_,_,_,rfl,rfl,rfl,by omega,by omega,by omega,by omega,by rw[colL,if_pos (by omega)]; exact stF_snoc k4 k8,by omega⟩,fun k8=>⟨by omega,by omega,i+1,_,_,_,rfl,rfl,rfl,by omega,by omega,by omega,by omega,by rw[colL,if_pos (by omega)]; exact stF_snoc' k4 k8,by omega⟩⟩
 ·rw[show i=ub.length by omega] at k4
  rw[k4]; exact⟨rfl,rfl,rfl⟩
def T1b:Tbl:=((T1.addC 58 fun a c=>dS (D81 a c)).addN 13 fun a=>dS (D11 a)).addI 78 fun a=>dS (D60 a)
def D46:List TV→List TV→Dn
 | [.ptr 0 0,.val (.int .i64 m)],[.sl (.int .i64) _ .no,.val (.int .u64 _)]=>some ([m≤1000,-10000≤m],diceS ival fun k=>[0≤k,k≤m∨k=0],[])
 | _,_=>none
theorem v46:VC T1b Tryz.f15 [some I64] [some IntsT,some (.int .u64)] D46:=by
 intro a cs p s j h hp
 unfold D46 at h
 split at h<;>cases h
 rename_i m r z
 obtain⟨h1,h2,-⟩:=hp
 refine vcp (A:=vcIf (decide (m≤(0:Int))) (∃ (a:Int),∃ (a_1:List Int),∃ (a_2:Int),(0:Int)=a∧r=a_1∧z=a_2∧(0:Int)≤a∧(a≤m∨a=(0:Int))∧True) (∀ (a:Int) (a_1:List Int) (a_2:Int),(0:Int)≤a→a<(4294967296:Int)→rng (m+(1:Int))∧∃ (a_5:Int),∃ (a_6:List Int),∃ (a_7:Int),IntKind.i64.wrap ((IntKind.u64.wrap (a*IntKind.u64.wrap (m+(1:Int)))).fdiv (4294967296:Int))=a_5∧a_1=a_6∧a_2=a_7∧(0:Int)≤a_5∧(a_5≤m∨a_5=(0:Int))∧True)) (by kernel_rfl) ?_
 simp only[vc_dec,vc_beq,vc_bne,vc_not,nil_e,rng,and_true,true_and,eq_self]
 exact⟨fun h=>⟨0,_,_,rfl,rfl,rfl,by omega,by omega⟩,fun h k r1 z1 h3 h4=>⟨by omega,_,_,_,rfl,rfl,rfl,(to_in h1 (by omega) h3 h4).1,(to_in h1 (by omega) h3 h4).2⟩⟩
def D65:List TV→Dn
 | [.agg [.sl (.int .i64) ua .no,.sl (.int .i64) la .no],.agg [.sl (.int .i64) ub .no,.sl (.int .i64) lb .no],.val (.int .i64 w)]=>some ([la.length≤100,ub.length≤100,inH la,inH ub],.res (.sl I64 (shL la ub w (ub.length+la.length+1)) .no) [] [],
  [(4,.ex Nat fun k => .st { sl:=[(7,.sl I64 (shL la ub w k) (.lab 2)),(8,ival ((k:Int)-(ub.length:Int)))],own:=[(3,1)],good:=[k≤ub.length+la.length+1],m:=ub.length+la.length+1-k })])
 | _=>none
theorem v65:VI T1b Tryz.f103 [some IntsT] D65:=by
 intro a p s j h hp
 unfold D65 at h
 split at h<;>cases h
 rename_i ua la ub lb w
 obtain⟨h1,h2,h3,h4,-⟩:=hp
 refine vcp (A:=rng (-(↑ub.length:Int))∧(∃ (a:Nat),[]=shL la ub w a ∧ -(↑ub.length:Int)=(↑a:Int)-(↑ub.length:Int)∧a≤ub.length+la.length+(1:Nat)∧ub.length+la.length+(1:Nat)-a<(1000000:Nat))∧∀ (a:Nat),a≤ub.length+la.length+(1:Nat)→vcIf (decide ((↑a:Int)-(↑ub.length:Int)≤(↑la.length:Int))) (la.length≤(1000:Nat)∧ub.length≤(1000:Nat)∧inH la∧inH ub∧vcIf (decide ((stA la ub ((↑a:Int)-(↑ub.length:Int))).snd.snd≥(3:Int))) (rng ((stA la ub ((↑a:Int)-(↑ub.length:Int))).snd.fst-(stA la ub ((↑a:Int)-(↑ub.length:Int))).fst)∧vcIf (decide ((stA la ub ((↑a:Int)-(↑ub.length:Int))).snd.fst-(stA la ub ((↑a:Int)-(↑ub.length:Int))).fst≤w)) ((shL la ub w a).length+(1:Nat)≤(1000000000:Nat)∧rng ((↑a:Int)-(↑ub.length:Int)+(1:Int))∧∃ (a_2:Nat),w=w∧nilE I64.den∧shL la ub w a++[(↑a:Int)-(↑ub.length:Int)]=shL la ub w a_2∧(↑a:Int)-(↑ub.length:Int)+(1:Int)=(↑a_2:Int)-(↑ub.length:Int)∧ua=ua∧la=la∧ub=ub∧lb=lb∧a_2≤ub.length+la.length+(1:Nat)∧ub.length+la.length+(1:Nat)-a_2<ub.length+la.length+(1:Nat)-a) (rng ((↑a:Int)-(↑ub.length:Int)+(1:Int))∧∃ (a_2:Nat),w=w∧nilE I64.den∧shL la ub w a=shL la ub w a_2∧(↑a:Int)-(↑ub.length:Int)+(1:Int)=(↑a_2:Int)-(↑ub.length:Int)∧ua=ua∧la=la∧ub=ub∧lb=lb∧a_2≤ub.length+la.length+(1:Nat)∧ub.length+la.length+(1:Nat)-a_2<ub.length+la.length+(1:Nat)-a)) (rng ((↑a:Int)-(↑ub.length:Int)+(1:Int))∧∃ (a_2:Nat),w=w∧nilE I64.den∧shL la ub w a=shL la ub w a_2∧(↑a:Int)-(↑ub.length:Int)+(1:Int)=(↑a_2:Int)-(↑ub.length:Int)∧ua=ua∧la=la∧ub=ub∧lb=lb∧a_2≤ub.length+la.length+(1:Nat)∧ub.length+la.length+(1:Nat)-a_2<ub.length+la.length+(1:Nat)-a)) (shL la ub w a=shL la ub w (ub.length+la.length+(1:Nat))∧True)) (by kernel_rfl) ?_
 simp only[vc_dec,stA,vc_beq,vc_bne,vc_not,nil_e,rng,and_true,true_and,eq_self]
 refine⟨by omega,⟨0,rfl,by omega,by omega,by omega⟩,fun k hk=>⟨fun h=>⟨by omega,by omega,h3,h4,?_⟩,fun h=>by rw[show k=ub.length+la.length+1 by omega]⟩⟩
 have e:=stA_in (ub:=ub) ((k:Int)-ub.length) h3 h4
 simp only[stA] at e
 have hl:=shL_len la ub w k
 exact⟨fun h5=>⟨by omega,fun h6=>⟨by omega,by omega,k+1,shL_yes (decide_eq_true ⟨h5,h6⟩),by omega,by omega,by omega⟩,fun h6=>⟨by omega,k+1,shL_no (decide_eq_false fun e=>h6 e.2),by omega,by omega,by omega⟩⟩,fun h5=>⟨by omega,k+1,shL_no (decide_eq_false fun e=>h5 e.1),by omega,by omega,by omega⟩⟩
def T2:Tbl:=(((T1b.addC 15 fun a c=>dS (D46 a c)).addI 81 fun a=>dS (D16 a)).addC 132 fun a c=>dS (D109 a c)).addI 103 fun a=>dS (D65 a)
def D19:List TV→List TV→Dn
 | [.ptr 0 0,.val (.int .i64 lo),.val (.int .i64 hi)],[.sl (.int .i64) _ .no,.val (.int .u64 _)]=>some ([-1000≤lo,lo≤1000,-1000≤hi,hi≤1000+lo,hi≤5000],diceS ival fun k=>[lo≤k,k≤hi∨k=lo],[])
 | _,_=>none
theorem v19:VC T2 Tryz.f70 [some I64] [some IntsT,some (.int .u64)] D19:=by
 intro a cs p s j h hp
 unfold D19 at h
 split at h<;>cases h
 rename_i lo hi r z
 obtain⟨h1,h2,h3,h4,h5,-⟩:=hp
 refine vcp (A:=rng (hi-lo)∧hi-lo≤(1000:Int)∧(-10000:Int)≤hi-lo∧∀ (a:Int) (a_1:List Int) (a_2:Int),(0:Int)≤a→a≤hi-lo∨a=(0:Int)→rng (lo+a)∧∃ (a_5:Int),∃ (a_6:List Int),∃ (a_7:Int),lo+a=a_5∧a_1=a_6∧a_2=a_7∧lo≤a_5∧(a_5≤hi∨a_5=lo)∧True) (by kernel_rfl) ?_
 simp only[vc_dec,vc_beq,vc_bne,vc_not,nil_e,rng,and_true,true_and,eq_self]
 exact⟨by omega,by omega,by omega,fun k r1 z1 h6 h7=>⟨by omega,_,_,_,rfl,rfl,rfl,by omega,by omega⟩⟩
def D27:List TV→List TV→Dn
 | [.ptr 0 0,.val (.int .i64 m)],[.sl (.int .i64) _ .no,.val (.int .u64 _)]=>some ([m≤1000,0≤m],.ex Bool fun b=>diceS (fun _=>bval b) fun _=>[],[])
 | _,_=>none
theorem v27:VC T2 Tryz.f67 [some .bool] [some IntsT,some (.int .u64)] D27:=by
 intro a cs p s j h hp
 unfold D27 at h
 split at h<;>cases h
 rename_i m r z
 obtain⟨h1,h2,-⟩:=hp
 refine vcp (A:=rng (m-(1:Int))∧m-(1:Int)≤(1000:Int)∧(-10000:Int)≤m-(1:Int)∧∀ (a:Int) (a_1:List Int) (a_2:Int),(0:Int)≤a→a≤m-(1:Int)∨a=(0:Int)→∃ (a_5:Bool),∃ (a_6:Int),∃ (a_7:List Int),∃ (a_8:Int),(a==IntKind.i64.wrap (m.tdiv (2:Int)))=a_5∧a_1=a_7∧a_2=a_8∧True) (by kernel_rfl) ?_
 simp only[vc_dec,vc_beq,vc_bne,vc_not,nil_e,rng,and_true,true_and,eq_self]
 exact⟨by omega,by omega,by omega,fun k r1 z1 _ _=>⟨_,0,_,_,rfl,rfl,rfl⟩⟩
def D45:List TV→List TV→Dn
 | [.ptr 0 0,.sl (.int .i64) l .no],[.sl (.int .i64) _ .no,.val (.int .u64 _)]=>some ([0<l.length,l.length≤1000],diceS ival fun k=>[k∈l],[])
 | _,_=>none
theorem v45:VC T2 Tryz.f69 [some I64] [some IntsT,some (.int .u64)] D45:=by
 intro a cs p s j h hp
 unfold D45 at h
 split at h<;>cases h
 rename_i l r z
 obtain⟨h1,h2,-⟩:=hp
 refine vcp (A:=rng ((↑l.length:Int)-(1:Int))∧(↑l.length:Int)-(1:Int)≤(1000:Int)∧(-10000:Int)≤(↑l.length:Int)-(1:Int)∧∀ (a:Int) (a_1:List Int) (a_2:Int),(0:Int)≤a→a≤(↑l.length:Int)-(1:Int)∨a=(0:Int)→((0:Int)≤a∧a<(↑l.length:Int))∧∃ (a_5:Int),∃ (a_6:List Int),∃ (a_7:Int),l.getD a.toNat (0:Int)=a_5∧a_1=a_6∧a_2=a_7∧a_5∈l∧True) (by kernel_rfl) ?_
 simp only[vc_dec,vc_beq,vc_bne,vc_not,nil_e,rng,and_true,true_and,eq_self]
 exact⟨by omega,by omega,by omega,fun k r1 z1 h3 h4=>⟨by omega,_,_,_,rfl,rfl,rfl,mem_getD (by omega)⟩⟩
def D96:List TV→List TV→Dn
 | [.sl (.int .i64) l .no,.fn 121 [] [.ptr 0 0]],[.val (.int .i64 most)]=>some ([l.length≤1000],.res (bval (!l.all (inB most))) [ival most] [],[])
 | _,_=>none
theorem v96:VC T2 Tryz.f120 [some .bool] [some I64] D96:=by
 intro a cs p s j h hp
 unfold D96 at h
 split at h<;>cases h
 rename_i l most
 have h1:=hp.1
 refine vcp (A:=l.length≤(1000:Nat)∧∀ (a:Int),(if l.all (inB most)=true then a=(-1:Int) else (0:Int)≤a)→decide (a≥(0:Int)) = !l.all (inB most)∧most=most∧True) (by kernel_rfl) ?_
 simp only[vc_dec,vc_beq,vc_bne,vc_not,nil_e,rng,and_true,true_and,eq_self]
 refine⟨h1,fun k hk => ?_⟩
 cases hl:l.all (inB most)<;>simp[hl] at hk ⊢<;>omega
def T3:Tbl:=(((T2.addC 70 fun a c=>dS (D19 a c)).addC 67 fun a c=>dS (D27 a c)).addC 69 fun a c=>dS (D45 a c)).addC 120 fun a c=>dS (D96 a c)
def D44:List TV→List TV→Dn
 | [.ptr 0 0,.val (.int .i64 c)],[.sl (.int .i64) _ .no,.val (.int .u64 _)]=>some ([0≤c,c≤100],.ex (List Int) fun o => .ex (List Int) fun r => .ex Int fun z => .res (.sl I64 o .no) (dice r z) [(o.length:Int)=c,inH o],
  [(5,.ex Nat fun i => .ex (List Int) fun o => .ex (List Int) fun r => .ex Int fun z => .st { sl:=[(6,.sl I64 o (.lab 1)),(7,ival i)],pl:=[(0,dice r z)],own:=[(3,1)],good:=[(i:Int)≤c,o.length=i,inH o],m:=c.toNat-i })])
 | _,_=>none
theorem v44:VC T3 Tryz.f87 [some IntsT] [some IntsT,some (.int .u64)] D44:=by
 intro a cs p s j h hp
 unfold D44 at h
 split at h<;>cases h
 rename_i c r z
 obtain⟨h1,h2,-⟩:=hp
 refine vcp (A:=(7:Int)≤(1000:Int)∧(-10000:Int)≤(7:Int)∧∀ (a:Int) (a_1:List Int) (a_2:Int),(0:Int)≤a→a≤(7:Int)∨a=(0:Int)→(0:Nat)<(3:Nat)∧(3:Nat)≤(1000:Nat)∧∀ (a_5:Int) (a_6:List Int) (a_7:Int),a_5∈[(0:Int),(2:Int),a]→(∃ (a:Nat),∃ (a_8:List Int),∃ (a_9:List Int),∃ (a_10:Int),[]=a_8∧(0:Int)=(↑a:Int)∧a_6=a_9∧a_7=a_10∧(↑a:Int)≤c∧a_8.length=a∧inH a_8∧c.toNat-a<(1000000:Nat))∧∀ (a:Nat) (a_8 a_9:List Int) (a_10:Int),(↑a:Int)≤c→a_8.length=a→inH a_8→vcIf (decide ((↑a:Int)<c)) ((0:Nat)<(4:Nat)∧(4:Nat)≤(1000:Nat)∧∀ (a_14:Int) (a_15:List Int) (a_16:Int),a_14∈[(0:Int),(0:Int),(1:Int),(2:Int)]→rng (a_5+a_14)∧a_8.length+(1:Nat)≤(1000000000:Nat)∧rng ((↑a:Int)+(1:Int))∧∃ (a_18:Nat),∃ (a_19:List Int),∃ (a_20:List Int),∃ (a_21:Int),c=c∧nilE I64.den∧a_5=a_5∧a_8++[a_5+a_14]=a_19∧(↑a:Int)+(1:Int)=(↑a_18:Int)∧a_15=a_20∧a_16=a_21∧(↑a_18:Int)≤c∧a_19.length=a_18∧inH a_19∧c.toNat-a_18<c.toNat-a) (∃ (a:List Int),∃ (a_14:List Int),∃ (a_15:Int),a_8=a∧a_9=a_14∧a_10=a_15∧(↑a.length:Int)=c∧inH a∧True)) (by kernel_rfl) ?_
 simp only[vc_dec,vc_beq,vc_bne,vc_not,nil_e,rng,and_true,true_and,eq_self]
 refine⟨by omega,by omega,fun k1 r1 z1 h3 h4=>⟨by omega,by omega,fun k2 r2 z2 h5 => ?_⟩⟩
 have h6:0≤k2∧k2≤7:=by simp at h5; omega
 refine⟨⟨0,[],r2,z2,rfl,rfl,rfl,rfl,h1,rfl,by simp[inH],by omega⟩,fun i o r3 z3 h6 h7 h8=>⟨fun h9=>⟨by omega,by omega,fun k4 r4 z4 h10 => ?_⟩,fun h9=>⟨_,_,_,rfl,rfl,rfl,by omega,h8⟩⟩⟩
 have h11:0≤k4∧k4≤2:=by simp at h10; omega
 exact⟨by omega,by omega,by omega,i+1,_,_,_,rfl,by omega,rfl,rfl,by omega,by simp[h7],all_snoc h8 (by omega),by omega⟩
def D47:List TV→List TV→Dn
 | [.ptr 0 0],[.sl (.int .i64) _ .no,.val (.int .u64 _)]=>some ([],.ex (List Int) fun o => .ex (List Int) fun r => .ex Int fun z => .res (.sl I64 o .no) (dice r z) [o≠[],∀ x∈o,0≤x∧x≤3,o.Pairwise (· < ·)],
  [(4,.ex Nat fun i => .ex (List Int) fun o => .ex (List Int) fun r => .ex Int fun z => .st { sl:=[(3,.sl I64 o (.lab 1)),(4,ival i)],pl:=[(0,dice r z)],own:=[(3,1)],good:=[i≤4,o.length≤i,∀ x∈o,0≤x∧x<i,o.Pairwise (· < ·)],m:=4-i })])
 | _,_=>none
theorem v47:VC T3 Tryz.f88 [some IntsT] [some IntsT,some (.int .u64)] D47:=by
 intro a cs p s j h hp
 unfold D47 at h
 split at h<;>cases h
 rename_i r z
 refine vcp (A:=(∃ (a:Nat),∃ (a_1:List Int),∃ (a_2:List Int),∃ (a_3:Int),[]=a_1∧(0:Int)=(↑a:Int)∧r=a_2∧z=a_3∧a≤(4:Nat)∧a_1.length≤a∧(∀ (x:Int),x∈a_1→(0:Int)≤x∧x<(↑a:Int))∧List.Pairwise (fun(x1 x2:Int)=>x1<x2) a_1∧(4:Nat)-a<(1000000:Nat))∧∀ (a:Nat) (a_1 a_2:List Int) (a_3:Int),a≤(4:Nat)→a_1.length≤a→(∀ (x:Int),x∈a_1→(0:Int)≤x∧x<(↑a:Int))→List.Pairwise (fun(x1 x2:Int)=>x1<x2) a_1→vcIf (decide ((↑a:Int)≤(3:Int))) ((2:Int)≤(1000:Int)∧(0:Int)≤(2:Int)∧∀ (a_8:Bool) (a_9:Int) (a_10:List Int) (a_11:Int),vcIf a_8 (a_1.length+(1:Nat)≤(1000000000:Nat)∧rng ((↑a:Int)+(1:Int))∧∃ (a_12:Nat),∃ (a_13:List Int),∃ (a_14:List Int),∃ (a_15:Int),nilE I64.den∧a_1++[(↑a:Int)]=a_13∧(↑a:Int)+(1:Int)=(↑a_12:Int)∧a_10=a_14∧a_11=a_15∧a_12≤(4:Nat)∧a_13.length≤a_12∧(∀ (x:Int),x∈a_13→(0:Int)≤x∧x<(↑a_12:Int))∧List.Pairwise (fun(x1 x2:Int)=>x1<x2) a_13∧(4:Nat)-a_12<(4:Nat)-a) (rng ((↑a:Int)+(1:Int))∧∃ (a_12:Nat),∃ (a_13:List Int),∃ (a_14:List Int),∃ (a_15:Int),nilE I64.den∧a_1=a_13∧(↑a:Int)+(1:Int)=(↑a_12:Int)∧a_10=a_14∧a_11=a_15∧a_12≤(4:Nat)∧a_13.length≤a_12∧(∀ (x:Int),x∈a_13→(0:Int)≤x∧x<(↑a_12:Int))∧List.Pairwise (fun(x1 x2:Int)=>x1<x2) a_13∧(4:Nat)-a_12<(4:Nat)-a)) (vcIf ((↑a_1.length:Int)==(0:Int)) ((3:Int)≤(1000:Int)∧(-10000:Int)≤(3:Int)∧∀ (a:Int) (a_8:List Int) (a_9:Int),(0:Int)≤a→a≤(3:Int)∨a=(0:Int)→∃ (a_12:List Int),∃ (a_13:List Int),∃ (a_14:Int),[a]=a_12∧a_8=a_13∧a_9=a_14∧a_12≠[]∧(∀ (x:Int),x∈a_12→(0:Int)≤x∧x≤(3:Int))∧List.Pairwise (fun(x1 x2:Int)=>x1<x2) a_12∧True) (∃ (a:List Int),∃ (a_8:List Int),∃ (a_9:Int),a_1=a∧a_2=a_8∧a_3=a_9∧a≠[]∧(∀ (x:Int),x∈a→(0:Int)≤x∧x≤(3:Int))∧List.Pairwise (fun(x1 x2:Int)=>x1<x2) a∧True))) (by kernel_rfl) ?_
 simp only[vc_dec,vc_beq,vc_bne,vc_not,nil_e,rng,and_true,true_and,eq_self]
 refine⟨⟨0,[],_,_,rfl,rfl,rfl,rfl,by omega,by simp,by simp,by simp,by omega⟩,fun i o r1 z1 h1 h2 h3 h4=>⟨fun h5=>⟨by omega,by omega,fun b _ r2 z2 => ?_⟩,fun h5=>⟨fun h6=>⟨by omega,by omega,fun k r2 z2 h7 h8=>⟨_,_,_,rfl,rfl,rfl,by simp,by simp; omega,by simp⟩⟩,fun h6=>⟨_,_,_,rfl,rfl,rfl,fun e=>h6 (by rw[e]; rfl),fun x hx=>by have:=h3 x hx; omega,h4⟩⟩⟩⟩
 rw[vc_iff]
 exact⟨fun _=>⟨by omega,by omega,i+1,_,_,_,rfl,by omega,rfl,rfl,by omega,by simp; omega,all_snoc (fun x hx=>by have:=h3 x hx; omega) (by omega),asc_snoc h4 (fun x hx=>(h3 x hx).2),by omega⟩,fun _=>⟨by omega,i+1,_,_,_,rfl,by omega,rfl,rfl,by omega,by omega,fun x hx=>by have:=h3 x hx; omega,h4,by omega⟩⟩
def D78:List TV→Dn
 | [.sl (.int .i64) l .no,.val (.int .i64 most)]=>some ([l.length≤1000],.res (bval (l.all (inB most))) [] [],[])
 | _=>none
theorem v78:VI T3 Tryz.f90 [some .bool] D78:=by
 intro a p s j h hp
 unfold D78 at h
 split at h<;>cases h
 rename_i l most
 have h1:=hp.1
 refine vcp (A:=l.length≤(1000:Nat)∧(!!l.all (inB most))=l.all (inB most)∧True) (by kernel_rfl) ?_
 exact⟨h1,Bool.not_not _,trivial⟩
def T4:Tbl:=((T3.addC 87 fun a c=>dS (D44 a c)).addC 88 fun a c=>dS (D47 a c)).addI 90 fun a=>dS (D78 a)
section
variable {tab:IsoF} (tk:TabK tab)
include tk
theorem tok1b:TOK tab 1 T1b:=mkI tk (tok_0 tk) (by decide) Tryz.func78 rfl v60 (mkN tk (tok_0 tk) (by decide) Tryz.func13 rfl v11 (mkC (tok_0 tk) Tryz.func58 rfl v81 (tok1 tk)))
theorem tok2:TOK tab 2 T2:=mkI tk (tok1b tk) (by decide) Tryz.func103 rfl v65 (mkC (tok1 tk) Tryz.func132 rfl v109 (mkI tk (tok1 tk) (by decide) Tryz.func81 rfl v16 (mkC (tok1b tk) Tryz.func15 rfl v46 (tok_up (tok1b tk)))))
theorem tok3:TOK tab 3 T3:=mkC (tok2 tk) Tryz.func120 rfl v96 (mkC (tok2 tk) Tryz.func69 rfl v45 (mkC (tok2 tk) Tryz.func67 rfl v27 (mkC (tok2 tk) Tryz.func70 rfl v19 (tok_up (tok2 tk)))))
theorem tok4:TOK tab 4 T4:=mkI tk (tok3 tk) (by decide) Tryz.func90 rfl v78 (mkC (tok3 tk) Tryz.func88 rfl v47 (mkC (tok3 tk) Tryz.func87 rfl v44 (tok_up (tok3 tk))))
end
end Go.Tv
end
section
namespace Go.Tv
open Go Go.Di Go.Proofs
set_option maxRecDepth 100000
abbrev pcS (f : List Int → List Int → Int → List Int → List Prop) : SpT := .ex (List Int) fun u => .ex (List Int) fun l => .ex Int fun w => .ex (List Int) fun ls => .ex (List Int) fun r => .ex Int fun z => .res (pcV u l w ls) (dice r z) (f u l w ls)
def D12 : List TV → List TV → Dn
 | [.ptr 0 0, .val (.int .i64 c)], [.sl (.int .i64) _ .no, .val (.int .u64 _)] => some ([3 ≤ c, c ≤ 8], pcS fun u l w ls => [Ok u l w ls, (u.length : Int) ≤ c], [])
 | _, _ => none
theorem v12 : VC T4 Tryz.f39 [some PieceT] [some IntsT, some (.int .u64)] D12 := by
 intro a cs p s j h hp
 unfold D12 at h
 split at h <;> cases h
 rename_i c r z
 obtain ⟨h1, h2, -⟩ := hp
 refine vcp (A := (-1000 : Int) ≤ (3 : Int) ∧ (3 : Int) ≤ (1000 : Int) ∧ (-1000 : Int) ≤ c ∧ c ≤ (1003 : Int) ∧ c ≤ (5000 : Int) ∧ ∀ (a : Int) (a_1 : List Int) (a_2 : Int), (3 : Int) ≤ a → a ≤ c ∨ a = (3 : Int) → (0 : Int) ≤ a ∧ a ≤ (100 : Int) ∧ ∀ (a_5 a_6 : List Int) (a_7 : Int), (↑a_5.length : Int) = a → inH a_5 → (0 : Int) ≤ a ∧ a ≤ (100 : Int) ∧ ∀ (a_10 a_11 : List Int) (a_12 : Int), (↑a_10.length : Int) = a → inH a_10 → (2 : Int) ≤ (1000 : Int) ∧ (-10000 : Int) ≤ (2 : Int) ∧ ∀ (a : Int) (a_13 : List Int) (a_14 : Int), (0 : Int) ≤ a → a ≤ (2 : Int) ∨ a = (0 : Int) → (0 : Nat) < (4 : Nat) ∧ (4 : Nat) ≤ (1000 : Nat) ∧ ∀ (a_17 : Int) (a_18 : List Int) (a_19 : Int), a_17 ∈ [(0 : Int), (0 : Int), (1 : Int), a] → ∀ (a a_20 : List Int) (a_21 : Int), a ≠ [] → (∀ (x : Int), x ∈ a → (0 : Int) ≤ x ∧ x ≤ (3 : Int)) → List.Pairwise (fun (x1 x2 : Int) => x1 < x2) a → ∃ (a_25 : List Int), ∃ (a_26 : List Int), ∃ (a_27 : Int), ∃ (a_28 : List Int), ∃ (a_29 : List Int), ∃ (a_30 : Int), a_5 = a_25 ∧ a_10 = a_26 ∧ a_17 = a_27 ∧ a = a_28 ∧ a_20 = a_29 ∧ a_21 = a_30 ∧ Ok a_25 a_26 a_27 a_28 ∧ (↑a_25.length : Int) ≤ c ∧ True) (by kernel_rfl) ?_
 simp only [vc_dec, vc_beq, vc_bne, vc_not, nil_e, rng, and_true, true_and, eq_self]
 refine ⟨by omega, by omega, by omega, by omega, by omega, fun n r1 z1 h3 h4 => ⟨by omega, by omega, fun u r2 z2 h5 h6 => ⟨by omega, by omega, fun l r3 z3 h7 h8 => ⟨by omega, by omega, fun k r4 z4 h9 h10 => ⟨by omega, by omega, fun w r5 z5 h11 ls r6 z6 h12 h13 h14 => ?_⟩⟩⟩⟩⟩
 have h15 : 0 ≤ w ∧ w ≤ 2 := by simp at h11; omega
 exact ⟨u, l, w, ls, r6, z6, rfl, rfl, rfl, rfl, rfl, rfl, ⟨by omega, by omega, by omega, h6, h8, h15.1, h15.2, h12, h13, h14⟩, by omega⟩
def D77 : List TV → Dn
 | [.agg [.sl (.int .i64) u .no, .sl (.int .i64) l .no, .val (.int .i64 w), .sl (.int .i64) ls .no]] => some ([Sh u l ls], .res (ival (chk u l w ls)) [] [],
  [(3, .un 3), (19, .ex Nat fun i => .st { sl := [(71, ival i)], good := [i ≤ ls.length, lieE ls 0 = lieE ls i], m := ls.length - i })])
 | _ => none
set_option maxHeartbeats 1000000 in
theorem v77 : VI T4 Tryz.f89 [some I64] D77 := by
 intro a p s j h hp
 unfold D77 at h
 split at h <;> cases h
 rename_i u l w ls
 change List Int at u l ls
 obtain ⟨h1, h2, h3⟩ := hp.1
 refine vcp (A := ((0 : Int) ≤ (0 : Int) ∧ (0 : Int) < (↑(2 : Nat) : Int)) ∧ vcIf (decide ((↑u.length : Int) < (3 : Int))) ((7 : Int) = chk u l w ls ∧ True) (vcIf (decide ((↑u.length : Int) < (↑u.length : Int))) ((7 : Int) = chk u l w ls ∧ True) (vcIf (decide ((↑u.length : Int) > (8 : Int))) ((6 : Int) = chk u l w ls ∧ True) (vcIf (decide ((↑u.length : Int) > (↑u.length : Int))) ((6 : Int) = chk u l w ls ∧ True) (rng (1 : Int) ∧ ((0 : Int) ≤ (1 : Int) ∧ (1 : Int) < (↑(2 : Nat) : Int)) ∧ vcIf (decide ((↑l.length : Int) < (3 : Int))) ((7 : Int) = chk u l w ls ∧ True) (vcIf (decide ((↑l.length : Int) < (↑u.length : Int))) ((7 : Int) = chk u l w ls ∧ True) (vcIf (decide ((↑l.length : Int) > (8 : Int))) ((6 : Int) = chk u l w ls ∧ True) (vcIf (decide ((↑l.length : Int) > (↑u.length : Int))) ((6 : Int) = chk u l w ls ∧ True) (rng (2 : Int) ∧ u.length ≤ (1000 : Nat) ∧ vcIf (!u.all (inB (9 : Int))) ((1 : Int) = chk u l w ls ∧ True) (l.length ≤ (1000 : Nat) ∧ vcIf (!l.all (inB (9 : Int))) ((1 : Int) = chk u l w ls ∧ True) (vcIf (decide (w < (0 : Int))) ((1 : Int) = chk u l w ls ∧ True) (vcIf (decide (w > (2 : Int))) ((1 : Int) = chk u l w ls ∧ True) (vcIf ((↑ls.length : Int) == (0 : Int)) ((7 : Int) = chk u l w ls ∧ True) ((∃ (a : Nat), (0 : Int) = (↑a : Int) ∧ a ≤ ls.length ∧ lieE ls (0 : Nat) = lieE ls a ∧ ls.length - a < (1000000 : Nat)) ∧ ∀ (a : Nat), a ≤ ls.length → lieE ls (0 : Nat) = lieE ls a → vcIf (decide ((↑a : Int) < (↑ls.length : Int))) (((0 : Int) ≤ (↑a : Int) ∧ (↑a : Int) < (↑ls.length : Int)) ∧ vcIf (decide (ls.getD a (0 : Int) < (0 : Int))) ((8 : Int) = chk u l w ls ∧ True) (vcIf (decide (ls.getD a (0 : Int) > (3 : Int))) ((8 : Int) = chk u l w ls ∧ True) (vcIf (decide ((↑a : Int) > (0 : Int))) (rng ((↑a : Int) - (1 : Int)) ∧ ((0 : Int) ≤ (↑a : Int) - (1 : Int) ∧ (↑a : Int) - (1 : Int) < (↑ls.length : Int)) ∧ vcIf (decide (ls.getD a (0 : Int) ≤ ls.getD ((↑a : Int) - (1 : Int)).toNat (0 : Int))) ((5 : Int) = chk u l w ls ∧ True) (rng ((↑a : Int) + (1 : Int)) ∧ ∃ (a_3 : Nat), ls = ls ∧ (↑ls.length : Int) = (↑ls.length : Int) ∧ (↑a : Int) + (1 : Int) = (↑a_3 : Int) ∧ u = u ∧ l = l ∧ w = w ∧ ls = ls ∧ a_3 ≤ ls.length ∧ lieE ls (0 : Nat) = lieE ls a_3 ∧ ls.length - a_3 < ls.length - a)) (rng ((↑a : Int) + (1 : Int)) ∧ ∃ (a_3 : Nat), ls = ls ∧ (↑ls.length : Int) = (↑ls.length : Int) ∧ (↑a : Int) + (1 : Int) = (↑a_3 : Int) ∧ u = u ∧ l = l ∧ w = w ∧ ls = ls ∧ a_3 ≤ ls.length ∧ lieE ls (0 : Nat) = lieE ls a_3 ∧ ls.length - a_3 < ls.length - a)))) ((0 : Int) = chk u l w ls ∧ True))))))))))))))) (by kernel_rfl) ?_
 simp only [vc_dec, vc_beq, vc_bne, vc_not, nil_e, rng, and_true, true_and, eq_self]
 refine ⟨by omega, fun a1 => ?_, fun a1 => ⟨fun a2 => by omega, fun _ => ⟨fun a3 => ?_, fun a3 => ⟨fun _ => by omega, fun _ => ⟨by omega, by omega, fun a4 => ?_, fun a4 => ⟨fun a5 => ?_, fun a5 => ⟨fun a6 => ?_, fun a6 => ⟨fun a7 => ?_, fun a7 => ⟨by omega, by omega, ?_⟩⟩⟩⟩⟩⟩⟩⟩⟩
 ·rw [chk, if_pos (by omega)]
 ·rw [chk, if_neg (by omega), if_pos (by omega)]
 ·rw [chk, if_neg (by omega), if_neg (by omega), if_pos (by omega)]
 ·rw [chk, if_neg (by omega), if_neg (by omega), if_pos (by omega)]
 ·rw [chk, if_neg (by omega), if_neg (by omega), if_neg (by omega), if_pos (by omega)]
 ·rw [chk, if_neg (by omega), if_neg (by omega), if_neg (by omega), if_pos (by omega)]
 have e1 : ∀ (_ : u.all (inB 9) = false ∨ l.all (inB 9) = false ∨ w < 0 ∨ 2 < w), 1 = chk u l w ls := fun h => by rw [chk, if_neg (by omega), if_neg (by omega), if_neg (by omega), if_neg (by omega), if_pos h]
 rw [vc_iff]
 refine ⟨fun b1 => ⟨by omega, ?_⟩, fun b1 => e1 (.inl b1)⟩
 rw [vc_iff]
 refine ⟨fun b2 => ⟨fun b3 => e1 (.inr (.inr (.inl b3))), fun b3 => ⟨fun b4 => e1 (.inr (.inr (.inr b4))), fun b4 => ⟨fun b5 => ?_, fun b5 => ?_⟩⟩⟩, fun b2 => e1 (.inr (.inl b2))⟩
 ·rw [chk, if_neg (by omega), if_neg (by omega), if_neg (by omega), if_neg (by omega), if_neg (by rw [b1, b2]; simp; omega), if_pos (by omega)]
 have e : chk u l w ls = lieE ls 0 := chk_lie (by omega) (by omega) (by omega) (by omega) (by rw [b1]; rfl) (by rw [b2]; rfl) (by omega) (by omega) (by omega)
 rw [e]
 refine ⟨⟨0, rfl, by omega, rfl, by omega⟩, fun i k1 k2 => ⟨fun k3 => ⟨by omega, fun k4 => ?_, fun k4 => ⟨fun k5 => ?_, fun k5 => ⟨fun k6 => ⟨by omega, by omega, fun k7 => ?_, fun k7 => ⟨by omega, i + 1, by omega, by omega, k2.trans (lie_next (by omega) (by omega) ?_), by omega⟩⟩, fun k6 => ⟨by omega, i + 1, by omega, by omega, k2.trans (lie_next (by omega) (by omega) (by omega)), by omega⟩⟩⟩⟩, fun k3 => ?_⟩⟩
 ·rw [k2, lie_8 (by omega) (.inl k4)]
 ·rw [k2, lie_8 (by omega) (.inr (by omega))]
 ·rw [k2, lie_5 (by omega) (by omega) ⟨by omega, by rw [show i - 1 = ((i : Int) - 1).toNat by omega]; exact k7⟩]
 ·rw [show i - 1 = ((i : Int) - 1).toNat by omega]; exact fun h => k7 h.2
 ·rw [k2, lie_0 (by omega)]
def T5 : Tbl := (T4.addC 39 fun a c => dS (D12 a c)).addI 89 fun a => dS (D77 a)
def D13 : List TV → List TV → Dn
 | [.ptr 0 0, .agg [.sl (.int .i64) u .no, .sl (.int .i64) l .no, .val (.int .i64 w), .sl (.int .i64) ls .no]], [.sl (.int .i64) _ .no, .val (.int .u64 _)] => some ([Ok u l w ls], pcS fun u1 l1 w1 ls1 => [Ok u1 l1 w1 ls1, u1 = l.map (9 - ·)],
  [(5, .ex (List Int) fun u1 => .ex (List Int) fun l1 => .ex Int fun w1 => .ex (List Int) fun ls1 => .ex (List Int) fun r => .ex Int fun z => .ex Nat fun i => .st { sl := [(6, ival i)], pl := [(0, dice r z), (3, [.sl I64 ((l.take i).map (9 - ·)) (.lab 4), .sl I64 l1 .no, ival w1, .sl I64 ls1 .no])], own := [(3, 1)], good := [i ≤ l.length, Ok u1 l1 w1 ls1, l1.length = l.length], m := l.length - i })])
 | _, _ => none
theorem v13 : VC T5 Tryz.f40 [some PieceT] [some IntsT, some (.int .u64)] D13 := by
 intro a cs p s j h hp
 unfold D13 at h
 split at h <;> cases h
 rename_i u l w ls r z
 have h1 := hp.1
 refine vcp (A := (3 : Int) ≤ (↑u.length : Int) ∧ (↑u.length : Int) ≤ (8 : Int) ∧ ∀ (a a_1 : List Int) (a_2 : Int) (a_3 a_4 : List Int) (a_5 : Int), Ok a a_1 a_2 a_3 → (↑a.length : Int) ≤ (↑u.length : Int) → (0 : Int) ≤ (↑u.length : Int) ∧ (↑u.length : Int) ≤ (100 : Int) ∧ ∀ (a a_7 : List Int) (a_8 : Int), (↑a.length : Int) = (↑u.length : Int) → inH a → (∃ (a_11 : List Int), ∃ (a_12 : List Int), ∃ (a_13 : Int), ∃ (a_14 : List Int), ∃ (a_15 : List Int), ∃ (a_16 : Int), ∃ (a_17 : Nat), (0 : Int) = (↑a_17 : Int) ∧ a_7 = a_15 ∧ a_8 = a_16 ∧ [] = List.map (fun (x : I64.den) => (9 : I64.den) - x) (List.take a_17 l) ∧ a = a_12 ∧ a_2 = a_13 ∧ a_3 = a_14 ∧ a_17 ≤ l.length ∧ Ok a_11 a_12 a_13 a_14 ∧ a_12.length = l.length ∧ l.length - a_17 < (1000000 : Nat)) ∧ ∀ (a a_11 : List Int) (a_12 : Int) (a_13 a_14 : List Int) (a_15 : Int) (a_16 : Nat), a_16 ≤ l.length → Ok a a_11 a_12 a_13 → a_11.length = l.length → vcIf (decide ((↑a_16 : Int) < (↑l.length : Int))) (((0 : Int) ≤ (↑a_16 : Int) ∧ (↑a_16 : Int) < (↑l.length : Int)) ∧ rng ((9 : Int) - l.getD a_16 (0 : Int)) ∧ (List.map (fun (x : I64.den) => (9 : I64.den) - x) (List.take a_16 l)).length + (1 : Nat) ≤ (1000000000 : Nat) ∧ rng ((↑a_16 : Int) + (1 : Int)) ∧ ∃ (a : List Int), ∃ (a_18 : List Int), ∃ (a_19 : Int), ∃ (a_20 : List Int), ∃ (a_21 : List Int), ∃ (a_22 : Int), ∃ (a_23 : Nat), (↑a_16 : Int) + (1 : Int) = (↑a_23 : Int) ∧ a_14 = a_21 ∧ a_15 = a_22 ∧ u = u ∧ l = l ∧ w = w ∧ ls = ls ∧ (0 : Int) = (0 : Int) ∧ List.map (fun (x : I64.den) => (9 : I64.den) - x) (List.take a_16 l) ++ [(9 : Int) - l.getD a_16 (0 : Int)] = List.map (fun (x : I64.den) => (9 : I64.den) - x) (List.take a_23 l) ∧ a_11 = a_18 ∧ a_12 = a_19 ∧ a_13 = a_20 ∧ a_23 ≤ l.length ∧ Ok a a_18 a_19 a_20 ∧ a_18.length = l.length ∧ l.length - a_23 < l.length - a_16) (∃ (a : List Int), ∃ (a_18 : List Int), ∃ (a_19 : Int), ∃ (a_20 : List Int), ∃ (a_21 : List Int), ∃ (a_22 : Int), List.map (fun (x : I64.den) => (9 : I64.den) - x) (List.take a_16 l) = a ∧ a_11 = a_18 ∧ a_12 = a_19 ∧ a_13 = a_20 ∧ a_14 = a_21 ∧ a_15 = a_22 ∧ Ok a a_18 a_19 a_20 ∧ a = List.map (fun (x : I64.den) => (9 : I64.den) - x) l ∧ True)) (by kernel_rfl) ?_
 simp only [vc_dec, vc_beq, vc_bne, vc_not, nil_e, rng, and_true, true_and, eq_self]
 have := h1.n3
 have := h1.n8
 have := h1.len
 refine ⟨by omega, by omega, fun u1 l1 w1 ls1 r1 z1 h2 h3 => ⟨by omega, by omega, fun o r2 z2 h4 h5 => ⟨⟨o, o, w1, ls1, r2, z2, 0, rfl, rfl, rfl, rfl, rfl, rfl, rfl, by omega, ⟨by omega, by omega, rfl, h5, h5, h2.w0, h2.w2, h2.ne, h2.lie, h2.asc⟩, by omega, by omega⟩, fun u3 o w ls r3 z3 i h6 h7 h8 => ⟨fun h9 => ?_, fun h9 => ?_⟩⟩⟩⟩
 ·have := h1.hl _ (mem_getD (l := l) (i := i) (by omega))
  exact ⟨by omega, by omega, by simp; omega, by omega, u3, o, w, ls, r3, z3, i + 1, by omega, rfl, rfl, map_take_snoc (f := fun x => 9 - x) (by omega), rfl, rfl, rfl, by omega, h7, h8, by omega⟩
 ·rw [show i = l.length by omega, List.take_length]
  exact ⟨_, o, w, ls, r3, z3, rfl, rfl, rfl, rfl, rfl, rfl, ok_below h7 h8 h1.hl, rfl⟩
def D59 : List TV → Dn
 | [.sl (.pair (.sl (.int .i64)) (.pair (.sl (.int .i64)) (.pair (.int .i64) (.pair (.sl (.int .i64)) .unit)))) l .no] => some ([l.length ≤ 1000, ∀ p ∈ l, shortP p], .res (ival (chkL l)) [] [],
  [(3, .ex Nat fun i => .st { sl := [(8, ival i)], good := [i ≤ l.length, chkL (l.take i) = 0], m := l.length - i })])
 | _ => none
theorem v59 : VI T5 Tryz.f94 [some I64] D59 := by
 intro a p s j h hp
 unfold D59 at h
 split at h <;> cases h
 rename_i l
 obtain ⟨h1, h2, -⟩ := hp
 refine vcp (A := (∃ (a : Nat), (0 : Int) = (↑a : Int) ∧ a ≤ l.length ∧ chkL (List.take a l) = (0 : Int) ∧ l.length - a < (1000000 : Nat)) ∧ ∀ (a : Nat), a ≤ l.length → chkL (List.take a l) = (0 : Int) → vcIf (decide ((↑a : Int) < (↑l.length : Int))) (((0 : Int) ≤ (↑a : Int) ∧ (↑a : Int) < (↑l.length : Int)) ∧ Sh (l.getD a ([], [], (0 : Int), [], ())).fst (l.getD a ([], [], (0 : Int), [], ())).snd.fst (l.getD a ([], [], (0 : Int), [], ())).snd.snd.snd.fst ∧ vcIf (chk (l.getD a ([], [], (0 : Int), [], ())).fst (l.getD a ([], [], (0 : Int), [], ())).snd.fst (l.getD a ([], [], (0 : Int), [], ())).snd.snd.fst (l.getD a ([], [], (0 : Int), [], ())).snd.snd.snd.fst != (0 : Int)) (chk (l.getD a ([], [], (0 : Int), [], ())).fst (l.getD a ([], [], (0 : Int), [], ())).snd.fst (l.getD a ([], [], (0 : Int), [], ())).snd.snd.fst (l.getD a ([], [], (0 : Int), [], ())).snd.snd.snd.fst = chkL l ∧ True) (rng ((↑a : Int) + (1 : Int)) ∧ ∃ (a_3 : Nat), l = l ∧ (↑l.length : Int) = (↑l.length : Int) ∧ (↑a : Int) + (1 : Int) = (↑a_3 : Int) ∧ a_3 ≤ l.length ∧ chkL (List.take a_3 l) = (0 : Int) ∧ l.length - a_3 < l.length - a)) ((0 : Int) = chkL l ∧ True)) (by kernel_rfl) ?_
 simp only [vc_dec, vc_beq, vc_bne, vc_not, nil_e, rng, and_true, true_and, eq_self]
 refine ⟨⟨0, rfl, by omega, rfl, by omega⟩, fun i k1 k2 => ⟨fun k3 => ⟨by omega, getD_all (P := shortP) (by omega) h2, fun k4 => ⟨by omega, i + 1, by omega, by omega, chkL_one (by omega) k2 k4, by omega⟩, fun k4 => (chkL_at (by omega) k2 k4).symm⟩, fun k3 => ?_⟩⟩
 rw [show i = l.length by omega, List.take_length] at k2
 rw [k2]
def T6 : Tbl := (T5.addC 40 fun a c => dS (D13 a c)).addI 94 fun a => dS (D59 a)
def D21 : List TV → Dn
 | [.agg [.sl (.int .i64) ua .no, .sl (.int .i64) la .no, .val (.int .i64 wa), .sl (.int .i64) lsa .no], .agg [.sl (.int .i64) ub .no, .sl (.int .i64) lb .no, .val (.int .i64 wb), .sl (.int .i64) lsb .no], .val (.int .i64 s)] => some ([Sh ua la lsa, Sh ub lb lsb],
  .ex (Int × Int × Int) fun x => .res (.tup [.agg [ival x.1, ival x.2.1], ival x.2.2]) [] [x = if chkL [pd ua la wa lsa, pd ub lb wb lsb] = 0 then fitR la ub (wa + wb) s else (0, 0, chkL [pd ua la wa lsa, pd ub lb wb lsb])], [])
 | _ => none
theorem v21 : VI T6 Tryz.f55 [some RangeT, some I64] D21 := by
 intro a p s j h hp
 unfold D21 at h
 split at h <;> cases h
 rename_i ua la wa lsa ub lb wb lsb s
 obtain ⟨h1, h2, -⟩ := hp
 refine vcp (A := (2 : Nat) ≤ (1000 : Nat) ∧ (∀ (p : (PieceT).den), p ∈ [(ua, la, wa, lsa, ()), (ub, lb, wb, lsb, ())] → shortP p) ∧ vcIf (chkL [(ua, la, wa, lsa, ()), (ub, lb, wb, lsb, ())] != (0 : Int)) (∃ (a : Int × Int × Int), (0 : Int) = a.fst ∧ (0 : Int) = a.snd.fst ∧ chkL [(ua, la, wa, lsa, ()), (ub, lb, wb, lsb, ())] = a.snd.snd ∧ (a = if chkL [pd ua la wa lsa, pd ub lb wb lsb] = (0 : Int) then fitR la ub (wa + wb) s else ((0 : Int), (0 : Int), chkL [pd ua la wa lsa, pd ub lb wb lsb])) ∧ True) (la.length ≤ (1000 : Nat) ∧ ub.length ≤ (1000 : Nat) ∧ inH la ∧ inH ub ∧ vcIf (decide ((stA la ub s).snd.snd < (3 : Int))) (∃ (a : Int × Int × Int), (0 : Int) = a.fst ∧ (0 : Int) = a.snd.fst ∧ (7 : Int) = a.snd.snd ∧ (a = if chkL [pd ua la wa lsa, pd ub lb wb lsb] = (0 : Int) then fitR la ub (wa + wb) s else ((0 : Int), (0 : Int), chkL [pd ua la wa lsa, pd ub lb wb lsb])) ∧ True) (rng ((stA la ub s).snd.fst - (stA la ub s).fst) ∧ rng (wa + wb) ∧ vcIf (decide ((stA la ub s).snd.fst - (stA la ub s).fst > wa + wb)) (∃ (a : Int × Int × Int), (0 : Int) = a.fst ∧ (0 : Int) = a.snd.fst ∧ (11 : Int) = a.snd.snd ∧ (a = if chkL [pd ua la wa lsa, pd ub lb wb lsb] = (0 : Int) then fitR la ub (wa + wb) s else ((0 : Int), (0 : Int), chkL [pd ua la wa lsa, pd ub lb wb lsb])) ∧ True) (rng ((stA la ub s).fst + wa) ∧ rng ((stA la ub s).fst + wa + wb) ∧ ∃ (a : Int × Int × Int), (stA la ub s).snd.fst = a.fst ∧ (stA la ub s).fst + wa + wb = a.snd.fst ∧ (0 : Int) = a.snd.snd ∧ (a = if chkL [pd ua la wa lsa, pd ub lb wb lsb] = (0 : Int) then fitR la ub (wa + wb) s else ((0 : Int), (0 : Int), chkL [pd ua la wa lsa, pd ub lb wb lsb])) ∧ True)))) (by kernel_rfl) ?_
 simp only [vc_dec, vc_beq, vc_bne, vc_not, nil_e, rng, and_true, true_and, eq_self]
 refine ⟨by omega, short2 h1 h2, fun e => ?_, fun e => ⟨(0, 0, chkL [pd ua la wa lsa, pd ub lb wb lsb]), rfl, rfl, rfl, by rw [if_neg e]⟩⟩
 obtain ⟨o1, o2⟩ := chkL_two e
 have b := stA_in s o1.hl o2.hu
 have := o1.num
 have := o2.num
 refine ⟨by omega, by omega, o1.hl, o2.hu, fun k1 => ⟨(0, 0, 7), rfl, rfl, rfl, by rw [if_pos e, fitR, if_pos k1]⟩, fun k1 => ⟨by omega, by omega, fun k2 => ⟨(0, 0, 11), rfl, rfl, rfl, by rw [if_pos e, fitR, if_neg k1, if_pos k2]⟩, fun k2 => ⟨by omega, by omega, (_, _, 0), rfl, rfl, rfl, by rw [if_pos e, fitR, if_neg k1, if_neg k2, Int.add_assoc]⟩⟩⟩
def T7 : Tbl := T6.addI 55 fun a => dS (D21 a)
def T8 : Tbl := T7
section
variable {tab : IsoF} (tk : TabK tab)
include tk
theorem tok5 : TOK tab 5 T5 := mkI tk (tok4 tk) (by decide) Tryz.func89 rfl v77 (mkC (tok4 tk) Tryz.func39 rfl v12 (tok_up (tok4 tk)))
theorem tok6 : TOK tab 6 T6 := mkI tk (tok5 tk) (by decide) Tryz.func94 rfl v59 (mkC (tok5 tk) Tryz.func40 rfl v13 (tok_up (tok5 tk)))
theorem tok7 : TOK tab 7 T7 := mkI tk (tok6 tk) (by decide) Tryz.func55 rfl v21 (tok_up (tok6 tk))
theorem tok8 : TOK tab 8 T8 := tok_up (tok7 tk)
end
end Go.Tv
end
section
namespace Go.Tv
open Go Go.Di Go.Proofs
end Go.Tv
end
section
namespace Go.Tv
open Go Go.Di Go.Proofs
def wearsS (la ub:List Int) (nb k:Nat):List Int:=((List.range k).map fun(j:Nat)=>(j:Int)-(nb:Int)).filterMap fun s=>if 3≤(stA la ub s).2.2 then some ((stA la ub s).2.1-(stA la ub s).1) else none
def wearsY (ua la:List Int) (x:Int) (ub lb:List Int) (y:Int):List Int:=wearsS (layL x ua la) (layU y ub lb) ub.length (ub.length+ua.length+1)
def wearsX (ua la ub lb ys:List Int) (x:Int):List Int:=ys.flatMap (wearsY ua la x ub lb)
def wears (ua la lsa ub lb lsb:List Int):List Int:=lsa.flatMap (wearsX ua la ub lb lsb)
theorem flat_len {l:List Int} {f:Int→List Int} {c:Nat} (h:∀ x,(f x).length≤c):(l.flatMap f).length≤l.length*c:=by
 induction l with
 | nil=>simp
 | cons x l ih =>
  rw[List.flatMap_cons,List.length_append,List.length_cons,Nat.succ_mul]
  have:=h x
  omega
end Go.Tv
end
section
namespace Go.Tv
open Go Go.Di Go.Proofs
set_option maxRecDepth 100000
structure TabR (tab:IsoF):Prop where
 rev:∀ (l:List Int) d,l.length≤1000000→RT noIds [] (.sl I64 l .no) d→∃ r,tab 133 [d]=some r∧r.pure=true∧RT noIds [] (.sl I64 l.reverse .no) r
def S110:List TV→Sp
 | [.sl (.int .i64) l .no]=>some ([l.length≤1000000],.res (.sl I64 l.reverse .no) [] [])
 | _=>none
def D79:List TV→Dn
 | [.sl (.int .i64) l .no]=>some ([l≠[],l.length≤1000],.res (.sl I64 l .no) [] [],[])
 | _=>none
theorem v79:VI T0 Tryz.f91 [some IntsT] D79:=by
 intro a p s j h hp
 unfold D79 at h
 split at h<;>cases h
 rename_i l
 change List Int at l
 obtain⟨h1,h2,-⟩:=hp
 refine vcp (A:=l≠[]∧(0:Nat)+l.length≤(1000000000:Nat)∧l=l∧True) (by kernel_rfl) ?_
 exact⟨h1,by omega,rfl,trivial⟩
def D98:List TV→Dn
 | [.sl (.int .i64) l .no,.val (.int .i64 x)]=>some ([l.length≤1000],.res (ival (indexI l x)) [] [],[(3,.ex Nat fun i => .st { sl:=[(8,ival i)],good:=[i≤l.length,x ∉ l.take i],m:=l.length-i })])
 | _=>none
theorem v98:VI T0 Tryz.f122 [some I64] D98:=by
 intro a p s j h hp
 unfold D98 at h
 split at h<;>cases h
 rename_i l x
 change List Int at l
 have h1:=hp.1
 refine vcp (A:=(∃ (a:Nat),(0:Int)=(↑a:Int)∧a≤l.length∧¬x∈List.take a l∧l.length-a<(1000000:Nat))∧∀ (a:Nat),a≤l.length→¬x∈List.take a l→vcIf (decide ((↑a:Int)<(↑l.length:Int))) (((0:Int)≤(↑a:Int)∧(↑a:Int)<(↑l.length:Int))∧vcIf (x==l.getD a (0:Int)) ((↑a:Int)=indexI l x∧True) (rng ((↑a:Int)+(1:Int))∧∃ (a_3:Nat),l=l∧x=x∧(↑l.length:Int)=(↑l.length:Int)∧(↑a:Int)+(1:Int)=(↑a_3:Int)∧a_3≤l.length∧¬x∈List.take a_3 l∧l.length-a_3<l.length-a)) ((-1:Int)=indexI l x∧True)) (by kernel_rfl) ?_
 simp only[vc_dec,vc_beq,vc_bne,vc_not,nil_e,rng,and_true,true_and,eq_self]
 refine⟨⟨0,by omega,by omega,by simp,by omega⟩,fun i h2 h3=>⟨fun h4=>⟨by omega,fun h5 => ?_,fun h5=>⟨by omega,i+1,by omega,by omega,?_,by omega⟩⟩,fun h4 => ?_⟩⟩
 ·rw[indexI_at (by omega) h3 h5.symm]
 ·rw[take_one (by omega)]; simp only[List.mem_append,List.mem_singleton,not_or]; exact⟨h3,h5⟩
 ·rw[show i=l.length by omega,List.take_length] at h3; rw[indexI,if_neg h3]
def D99:List TV→Dn
 | [.agg [.sl (.int .i64) u .no,.sl (.int .i64) l .no]]=>some ([],.res (edV u l) [] [],[])
 | _=>none
theorem v99:VI T0 Tryz.f123 [some (.pair IntsT (.pair IntsT .unit))] D99:=by
 intro a p s j h hp
 unfold D99 at h
 split at h<;>cases h
 rename_i u l
 refine vcp (A:=u=u∧l=l∧True) (by kernel_rfl) ?_
 exact⟨rfl,rfl,trivial⟩
def T0r:Tbl:=T0.addI 133 S110
def D100:List TV→Dn
 | [.agg [.sl (.int .i64) u .no,.sl (.int .i64) l .no]]=>some ([u.length≤1000,l.length≤1000],.res (edV l.reverse u.reverse) [] [],[])
 | _=>none
theorem v100:VI T0r Tryz.f124 [some (.pair IntsT (.pair IntsT .unit))] D100:=by
 intro a p s j h hp
 unfold D100 at h
 split at h<;>cases h
 rename_i u l
 obtain⟨h1,h2,-⟩:=hp
 refine vcp (A:=l.length≤(1000000:Nat)∧u.length≤(1000000:Nat)∧l.reverse=l.reverse∧u.reverse=u.reverse∧True) (by kernel_rfl) ?_
 exact⟨by omega,by omega,rfl,rfl,trivial⟩
def D101:List TV→Dn
 | [.agg [.sl (.int .i64) u .no,.sl (.int .i64) l .no]]=>some ([u.length≤1000,l.length≤1000],.res (edV u.reverse l.reverse) [] [],[])
 | _=>none
theorem v101:VI T0r Tryz.f125 [some (.pair IntsT (.pair IntsT .unit))] D101:=by
 intro a p s j h hp
 unfold D101 at h
 split at h<;>cases h
 rename_i u l
 obtain⟨h1,h2,-⟩:=hp
 refine vcp (A:=u.length≤(1000000:Nat)∧l.length≤(1000000:Nat)∧u.reverse=u.reverse∧l.reverse=l.reverse∧True) (by kernel_rfl) ?_
 exact⟨by omega,by omega,rfl,rfl,trivial⟩
def D102:List TV→Dn
 | [.agg [.sl (.int .i64) u .no,.sl (.int .i64) l .no]]=>some ([],.res (edV l u) [] [],[])
 | _=>none
theorem v102:VI T0 Tryz.f126 [some (.pair IntsT (.pair IntsT .unit))] D102:=by
 intro a p s j h hp
 unfold D102 at h
 split at h<;>cases h
 rename_i u l
 refine vcp (A:=l=l∧u=u∧True) (by kernel_rfl) ?_
 exact⟨rfl,rfl,trivial⟩
def U1:Tbl:=(((((T0r.addI 91 fun a=>dS (D79 a)).addI 122 fun a=>dS (D98 a)).addI 123 fun a=>dS (D99 a)).addI 124 fun a=>dS (D100 a)).addI 125 fun a=>dS (D101 a)).addI 126 fun a=>dS (D102 a)
def D80:List TV→Dn
 | [.sl (.int .i64) l .no,.val (.int .i64 x)]=>some ([l.length≤1000],.res (bval (decide (x∈l))) [] [],[])
 | _=>none
theorem v80:VI U1 Tryz.f95 [some .bool] D80:=by
 intro a p s j h hp
 unfold D80 at h
 split at h<;>cases h
 rename_i l x
 change List Int at l
 have h1:=hp.1
 refine vcp (A:=l.length≤(1000:Nat)∧decide (indexI l x≥(0:Int))=decide (x∈l)∧True) (by kernel_rfl) ?_
 refine⟨h1,?_,trivial⟩
 rw[decide_eq_decide,indexI]
 split<;>simp_all
def D83:List TV→Dn
 | [.val (.int .i64 n),.agg [.sl (.int .i64) u .no,.sl (.int .i64) l .no]]=>some ([u.length≤1000,l.length≤1000,0≤n,n≤3],.res (edV (layU n u l) (layL n u l)) [] [],[])
 | _=>none
theorem v83:VI U1 Tryz.f98 [some (.pair IntsT (.pair IntsT .unit))] D83:=by
 intro a p s j h hp
 unfold D83 at h
 split at h<;>cases h
 rename_i n u l
 obtain⟨h1,h2,h3,h4,-⟩:=hp
 refine vcp (A:=vcIf (decide (n=(0:Int))) (u=layU n u l∧l=layL n u l∧True) (vcIf (decide (n=(1:Int))) (u.length≤(1000:Nat)∧l.length≤(1000:Nat)∧l.reverse=layU n u l∧u.reverse=layL n u l∧True) (vcIf (decide (n=(2:Int))) (u.length≤(1000:Nat)∧l.length≤(1000:Nat)∧u.reverse=layU n u l∧l.reverse=layL n u l∧True) (vcIf (decide (n=(3:Int))) (l=layU n u l∧u=layL n u l∧True) False)))) (by kernel_rfl) ?_
 have e:n=0∨n=1∨n=2∨n=3:=by omega
 rcases e with rfl | rfl | rfl | rfl
 ·exact⟨rfl,rfl,trivial⟩
 ·exact⟨h1,h2,rfl,rfl,trivial⟩
 ·exact⟨h1,h2,rfl,rfl,trivial⟩
 ·exact⟨rfl,rfl,trivial⟩
def U2:Tbl:=(U1.addI 95 fun a=>dS (D80 a)).addI 98 fun a=>dS (D83 a)
abbrev wkV (u l:List Int) (w:Int) (ls:List Int):TV := .agg [.sl I64 u .no,.sl I64 l .no,ival w,.sl I64 ls .no,.sl I64 u .no,.sl I64 l .no,.sl I64 l.reverse .no,.sl I64 u.reverse .no,.sl I64 u.reverse .no,.sl I64 l.reverse .no,.sl I64 l .no,.sl I64 u .no]
def D50:List TV→Dn
 | [.agg [.sl (.int .i64) u .no,.sl (.int .i64) l .no,.val (.int .i64 w),.sl (.int .i64) ls .no]]=>some ([u.length≤1000,l.length≤1000],.res (wkV u l w ls) [] [],[(4,.un 5)])
 | _=>none
theorem v50:VI U2 Tryz.f61 [none] D50:=by
 refine vi_of fun a => ?_
 unfold D50
 split
 rotate_left
 ·trivial
 rename_i u l w ls
 intro hp
 refine vcq (A:=u.length≤(1000:Nat)∧l.length≤(1000:Nat)∧(0:Int)≤(0:Int)∧(0:Int)≤(3:Int)∧True∧rng (1:Int)∧u.length≤(1000:Nat)∧l.length≤(1000:Nat)∧(0:Int)≤(1:Int)∧(1:Int)≤(3:Int)∧True∧rng (2:Int)∧u.length≤(1000:Nat)∧l.length≤(1000:Nat)∧(0:Int)≤(2:Int)∧(2:Int)≤(3:Int)∧True∧rng (3:Int)∧u.length≤(1000:Nat)∧l.length≤(1000:Nat)∧(0:Int)≤(3:Int)∧(3:Int)≤(3:Int)∧True∧rng (4:Int)∧u=u∧l=l∧w=w∧ls=ls∧layU (0:Int) u l=u∧layL (0:Int) u l=l∧layU (1:Int) u l=l.reverse∧layL (1:Int) u l=u.reverse∧layU (2:Int) u l=u.reverse∧layL (2:Int) u l=l.reverse∧layU (3:Int) u l=l∧layL (3:Int) u l=u∧True) (by kernel_rfl) ?_
 obtain⟨h1,h2,-⟩:=hp
 simp only[rng]
 repeat' (first | exact h1 | exact h2 | omega | rfl | trivial | apply And.intro)
section
variable {tab:IsoF} (tk:TabK tab) (tr:TabR tab)
theorem tok_le {k:Nat} {T:Tbl} (h:TOK tab k T):∀ m,TOK tab (m+k) T
 | 0=>by rwa [Nat.zero_add]
 | m+1=>by have:=tok_up (tok_le h m); rwa [Nat.add_right_comm] at this
theorem add110 {T:Tbl} {k:Nat} (tr:TabR tab) (hT:TOK tab k T):TOK tab k (T.addI 133 S110):=tok_i hT fun n a p s hs hp=>by
 unfold S110 at hs
 split at hs
 ·rename_i l
  cases hs
  intro dargs hd
  obtain⟨d,_,rfl,h1,h2⟩:=rtl_cases hd
  rw[rtl_nil' h2]
  obtain⟨r,k1,k2,k3⟩:=tr.rev l d hp.1 h1
  exact⟨r,_,by simp only[isoN,isoOf,k1,k2,if_true],k2,k3,rfl,rfl,trivial⟩
 ·cases hs
include tk tr
theorem uok1:TOK tab 1 U1:=mkI tk (tok_0 tk) (by decide) Tryz.func126 rfl v102 (mkI tk (add110 tr (tok_0 tk)) (by decide) Tryz.func125 rfl v101 (mkI tk (add110 tr (tok_0 tk)) (by decide) Tryz.func124 rfl v100 (mkI tk (tok_0 tk) (by decide) Tryz.func123 rfl v99 (mkI tk (tok_0 tk) (by decide) Tryz.func122 rfl v98 (mkI tk (tok_0 tk) (by decide) Tryz.func91 rfl v79 (tok_up (add110 tr (tok_0 tk))))))))
theorem uok2:TOK tab 2 U2:=mkI tk (uok1 tk tr) (by decide) Tryz.func98 rfl v83 (mkI tk (uok1 tk tr) (by decide) Tryz.func95 rfl v80 (tok_up (uok1 tk tr)))
def W8:Tbl:=((T8.addI 91 fun a=>dS (D79 a)).addI 95 fun a=>dS (D80 a)).addI 61 fun a=>dS (D50 a)
end
end Go.Tv
end
