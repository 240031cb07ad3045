import Derived.Test.YtedcgbkilmlbhaaGreatPk10
section
namespace Go.Tv
open Go Go.Di Go.Proofs
set_option maxRecDepth 100000
theorem JR:∀ (l:List Int) (st:Int×Int×Int),(l.foldl M6 st).2.2=st.2.2+l.length
  | [],st=>by simp
  | x::l,st=>by rw[List.foldl_cons,JR l]; simp only[M6,List.length_cons]; omega
theorem JQ (l:List Int):(oc l).2.2=l.length:=by rw[oc,JR]; simp
theorem Ej (la ub:List Int) (s:Int):∀ i,(eU la ub s i).length≤i
  | 0=>ai 0
  | i+1=>by
    have:=Ej la ub s i
    rw[eU]; split
    · rw[cO,List.length_singleton]; omega
    · omega
def Xu:List TV→Dn
  | [.val (.int .i64 x),.val (.int .i64 lo),.val (.int .i64 hi)]=>some ([],.res (o6 (decide (lo≤x∧x≤hi))) [] [],[])
  | _=>none
theorem v107:VI T0 Tryz.f100 [some .bool] Xu:=by
  refine lC fun a => ?_
  unfold Xu
  split
  rotate_left
  · trivial
  rename_i x lo hi
  intro hp
  refine Dd (A:=aN (decide (lo≤x)) (decide (x≤hi)=decide (lo≤x∧x≤hi)∧True) (false=decide (lo≤x∧x≤hi)∧True)) (by kernel_rfl) ?_
  rw[lq]
  refine⟨fun h=>⟨?_,trivial⟩,fun h=>⟨?_,trivial⟩⟩
  · simp only[bJ] at h; rw[nE]; omega
  · simp only[decide_eq_false_iff_not] at h; symm; rw[decide_eq_false_iff_not]; omega
def G1:gD:=T0.dX 100 fun a=>dS (Xu a)
def Xv:List TV→Dn
  | [.sl (.int .i64) l .no]=>some ([l.length≤1000],.ex Int fun e => .res (dn e) [] [e=if l.all (lg 9)=true then 0 else 1],[(3,.ex Nat fun i => .st { sl:=[(3,dn i)],eF:=[i≤l.length,(l.take i).all (lg 9)=true],m:=l.length-i })])
  | _=>none
theorem ab8:VI G1 Tryz.f93 [some bZ] Xv:=by
  refine lC fun a => ?_
  unfold Xv
  split
  rotate_left
  · trivial
  rename_i l
  intro hp
  refine Dd (A:=(∃ (a:Nat),0=(↑a:Int)∧a≤l.length∧(List.take a l).all (lg (9:Int))=true∧l.length-a<1000000)∧∀ (a:Nat),a≤l.length→(List.take a l).all (lg (9:Int))=true→aN (decide ((↑a:Int)<(↑l.length:Int))) ((0≤(↑a:Int)∧(↑a:Int)<(↑l.length:Int))∧aN (!decide (0≤l.getD a 0∧l.getD a 0≤9)) (∃ (a:Int),1=a∧(a=if l.all (lg (9:Int))=true then (0:Int) else (1:Int))∧True) (dZ ((↑a:Int)+1)∧∃ (a_1:Nat),l=l∧(↑a:Int)+1=(↑a_1:Int)∧a_1≤l.length∧(List.take a_1 l).all (lg (9:Int))=true∧l.length-a_1<l.length-a)) (∃ (a:Int),0=a∧(a=if l.all (lg (9:Int))=true then (0:Int) else (1:Int))∧True)) (by kernel_rfl) ?_
  have h1:=hp.1
  simp only[cC,c9,gE,dZ,and_true,true_and,eq_self]
  refine⟨⟨0,rfl,by omega,rfl,by omega⟩,fun i h2 h3=>⟨fun h4=>⟨by omega,fun h5=>⟨by omega,i+1,by omega,by omega,KV (by omega) h3 (iF h5),by omega⟩,fun h5=>⟨1,rfl,?_⟩⟩,fun h4=>⟨0,rfl,?_⟩⟩⟩
  · rw[Kg (i:=i) (by omega) (fe h5)]; rfl
  · rw[show i=l.length by omega,fo] at h3
    rw[if_pos h3]
def G2:gD:=G1.dX 93 fun a=>dS (Xv a)
def D91:List TV→Dn
  | [.agg [.sl (.int .i64) au .no,.sl (.int .i64) al .no,.val (.int .i64 aw),.sl (.int .i64) aq .no]]=>some ([Sh au al aq],.res (dn (iW au al aw aq)) [] [],[(29,.ex Nat fun i => .st { sl:=[(5,dn i)],eF:=[i≤aq.length,iN aq 0=iN aq i],m:=aq.length-i })])
  | _=>none
def v91.q1 (p0:Nat) (p1 p2:List Int) (p3:Int) (p4:List Int):Prop:=dZ ((↑p0:Int)+1)∧∃ (a:Nat),(↑p0:Int)+1=(↑a:Int)∧p1=p1∧p2=p2∧p3=p3∧p4=p4∧a≤p4.length∧iN p4 0=iN p4 a∧p4.length-a<p4.length-p0
theorem v91:VI G2 Tryz.f92 [some bZ] D91:=by
  refine lC fun a => ?_
  unfold D91
  split
  rotate_left
  · trivial
  rename_i u l w ls
  intro hp
  change List Int at u l ls
  refine Dd (A:=aN (decide ((↑u.length:Int)<3)) (7=iW u l w ls∧True) (aN (decide ((↑u.length:Int)>8)) (6=iW u l w ls∧True) (aN (decide ((↑l.length:Int)<(↑u.length:Int))) (7=iW u l w ls∧True) (aN (decide ((↑l.length:Int)>(↑u.length:Int))) (6=iW u l w ls∧True) (u.length≤1000∧∀ (a:Int),(a=if u.all (lg (9:Int))=true then (0:Int) else (1:Int))→aN (a !=0) (a=iW u l w ls∧True) (l.length≤1000∧∀ (a:Int),(a=if l.all (lg (9:Int))=true then (0:Int) else (1:Int))→aN (a !=0) (a=iW u l w ls∧True) (aN (!decide (0≤w∧w≤2)) (1=iW u l w ls∧True) (aN ((↑ls.length:Int)==0) (7=iW u l w ls∧True) ((∃ (a:Nat),0=(↑a:Int)∧a≤ls.length∧iN ls 0=iN ls a∧ls.length-a<1000000)∧∀ (a:Nat),a≤ls.length→iN ls 0=iN ls a→aN (decide ((↑a:Int)<(↑ls.length:Int))) ((0≤(↑a:Int)∧(↑a:Int)<(↑ls.length:Int))∧aN (!decide (0≤ls.getD a 0∧ls.getD a 0≤3)) (8=iW u l w ls∧True) (aN (decide ((↑a:Int)>0)) ((0≤(↑a:Int)∧(↑a:Int)<(↑ls.length:Int))∧dZ ((↑a:Int)-1)∧(0≤(↑a:Int)-1∧(↑a:Int)-1<(↑ls.length:Int))∧aN (decide (ls.getD a 0≤ls.getD ((↑a:Int)-1).toNat (0:Int))) (5=iW u l w ls∧True) (v91.q1 a u l w ls)) (v91.q1 a u l w ls))) (0=iW u l w ls∧True)))))))))) (by kernel_rfl) ?_
  unfold v91.q1
  obtain⟨h1,h2,h3⟩:=hp.1
  simp only[cC,cM,cL,c9,gE,dZ,and_true,true_and,eq_self]
  refine⟨fun a1 => ?_,fun a1=>⟨fun a2 => ?_,fun a2=>⟨fun a3 => ?_,fun a3=>⟨fun a4 => ?_,fun a4=>⟨by omega,fun e he => ?_⟩⟩⟩⟩⟩
  · rw[iW,if_pos (by omega)]
  · rw[iW,if_neg (by omega),if_pos (by omega)]
  · rw[iW,if_neg (by omega),if_neg (by omega),if_pos (by omega)]
  · rw[iW,if_neg (by omega),if_neg (by omega),if_neg (by omega),if_pos (by omega)]
  have e1:∀ (_:u.all (lg 9)=false∨l.all (lg 9)=false∨w<0∨2<w),iW u l w ls=1:=fun h=>by rw[iW,if_neg (by omega),if_neg (by omega),if_neg (by omega),if_neg (by omega),if_pos h]
  cases b1:u.all (lg 9) with
  | false=>rw[b1] at he; subst he; exact⟨fun h=>absurd h (by decide),fun _=>(e1 (.inl b1)).symm⟩
  | true =>
  rw[b1] at he; subst he
  refine⟨fun _=>⟨by omega,fun e he => ?_⟩,fun h=>absurd rfl h⟩
  cases b2:l.all (lg 9) with
  | false=>rw[b2] at he; subst he; exact⟨fun h=>absurd h (by decide),fun _=>(e1 (.inr (.inl b2))).symm⟩
  | true =>
  rw[b2] at he; subst he
  refine⟨fun _=>⟨fun b5=>⟨fun b6 => ?_,fun b6 => ?_⟩,fun b5=>(e1 (by omega)).symm⟩,fun h=>absurd rfl h⟩
  · rw[iW,if_neg (by omega),if_neg (by omega),if_neg (by omega),if_neg (by omega),if_neg (by rw[b1,b2]; simp; omega),if_pos (by omega)]
  have e:iW u l w ls=iN ls 0:=KI (by omega) (by omega) (by omega) (by omega) (by rw[b1]; rfl) (by rw[b2]; rfl) (by omega) (by omega) (by omega)
  rw[e]
  refine⟨⟨0,rfl,by omega,rfl,by omega⟩,fun i k1 k2=>⟨fun k3=>⟨by omega,fun k4=>⟨fun k5=>⟨by omega,by omega,by omega,fun k6 => ?_,fun k6=>⟨by omega,i+1,by omega,by omega,k2.trans (q7 (by omega) (by omega) ?_),by omega⟩⟩,fun k5=>⟨by omega,i+1,by omega,by omega,k2.trans (q7 (by omega) (by omega) (by omega)),by omega⟩⟩,fun k4 => ?_⟩,fun k3 => ?_⟩⟩
  · rw[k2,Ob (by omega) (by omega) ⟨by omega,by rw[show i-1=((i:Int)-1).toNat by omega]; exact k6⟩]
  · rw[show i-1=((i:Int)-1).toNat by omega]; exact fun h=>k6 h.2
  · rw[k2,Jr (by omega) (by omega)]
  · rw[k2,Oc (by omega)]
def G3:gD:=G2.dX 92 fun a=>dS (D91 a)
theorem MC (p q:PD):gK [p,q]=if E7 p≠0 then E7 p else E7 q:=by
  simp only[gK]
  split
  · rfl
  · split
    · rfl
    · rename_i h; exact(Decidable.not_not.1 h).symm
def D61:List TV→Dn
  | [.agg [.sl (.int .i64) au .no,.sl (.int .i64) al .no,.val (.int .i64 aw),.sl (.int .i64) aq .no],.agg [.sl (.int .i64) bu .no,.sl (.int .i64) bl .no,.val (.int .i64 bw),.sl (.int .i64) bq .no]]=>some ([Sh au al aq,Sh bu bl bq],.ex Int fun e => .res (dn e) [] [e=gK [pd au al aw aq,pd bu bl bw bq]],[])
  | _=>none
theorem v61:VI G3 Tryz.f96 [some bZ] D61:=by
  refine lC fun a => ?_
  unfold D61
  split
  rotate_left
  · trivial
  rename_i u l w ls u2 l2 w2 EN
  intro hp
  refine Dd (A:=Sh u l ls∧aN (iW u l w ls !=0) (∃ (a:Int),iW u l w ls=a∧a=gK [pd u l w ls,pd u2 l2 w2 EN]∧True) (Sh u2 l2 EN∧∃ (a:Int),iW u2 l2 w2 EN=a∧a=gK [pd u l w ls,pd u2 l2 w2 EN]∧True)) (by kernel_rfl) ?_
  obtain⟨h1,h2,-⟩:=hp
  rw[MC]
  simp only[cL]
  refine⟨h1,fun e=>⟨h2,_,rfl,(if_neg (fun h=>h e)).symm,trivial⟩,fun e=>⟨_,rfl,(if_pos e).symm,trivial⟩⟩
def sO (la ub:List Int) (s:Int) (i k:Nat):List Int:=if 0≤(i:Int)+s∧(i:Int)+s<k then eU la ub s i++[ub.getD i 0+la.getD ((i:Int)+s).toNat 0] else eU la ub s i
def aaP (te:List TV) (i:Nat) (k:Nat→LA):LA :=
  match te.getD i .unk with
  | .val (.int .i64 n)=>k n.toNat
  | _ => .un 0
def D62:List TV→Dn
  | [.agg [.sl (.int .i64) au .no,.sl (.int .i64) al .no,.val (.int .i64 aw),.sl (.int .i64) aq .no],.agg [.sl (.int .i64) bu .no,.sl (.int .i64) bl .no,.val (.int .i64 bw),.sl (.int .i64) bq .no],.val (.int .i64 s)]=>some ([al.length≤1000,bu.length≤1000,oS al,oS bu],.res (.sl bZ (eU al bu s bu.length) .no) [] [],
    [(4,.ex Nat fun i => .st { sl:=[(7,.sl bZ (eU al bu s i) (.oR 2)),(8,dn i)],own:=[(3,1)],eF:=[i≤bu.length],m:=bu.length-i }),
     (9,.dep fun te _=>aaP te 8 fun i => .ex Nat fun k => .st { sl:=[(7,.sl bZ (sO al bu s i k) (.oR 2)),(9,dn k)],eF:=[k≤al.length],m:=al.length-k })])
  | _=>none
def v62.q1 (p0 p1:Nat) (p2 p3 p4:List bZ.den) (p5:Int) (p6 p7:List bZ.den) (p8:Int) (p9:List bZ.den) (EM:Nat):Prop:=(↑p0:Int)=(↑p0:Int)∧(↑p1:Int)+1=(↑EM:Int)∧(↑p0:Int)=(↑p0:Int)∧p2=p2∧(↑p2.length:Int)=(↑p2.length:Int)∧true=true∧p3=p3∧p4=p4∧p5=p5∧p6=p6∧p2=p2∧p7=p7∧p8=p8∧p9=p9∧EM≤p4.length∧p4.length-EM<p4.length-p1
theorem v62:VI T0 Tryz.f117 [some cE] D62:=by
  refine lC fun a => ?_
  unfold D62
  split
  rotate_left
  · trivial
  rename_i u l w ls u2 l2 w2 EN s
  intro hp
  refine Dd (A:=(∃ (a:Nat),[]=eU l u2 s a∧0=(↑a:Int)∧a≤u2.length∧u2.length-a<1000000)∧∀ (a:Nat),a≤u2.length→aN (decide ((↑a:Int)<(↑u2.length:Int))) ((∃ (a_1:Nat),eU l u2 s a=sO l u2 s a a_1∧0=(↑a_1:Int)∧a_1≤l.length∧l.length-a_1<1000000)∧∀ (a_1:Nat),a_1≤l.length→aN (decide ((↑a_1:Int)<(↑l.length:Int))) (dZ ((↑a_1:Int)-(↑a:Int))∧aN ((↑a_1:Int)-(↑a:Int)==s) ((0≤(↑a_1:Int)∧(↑a_1:Int)<(↑l.length:Int))∧(0≤(↑a:Int)∧(↑a:Int)<(↑u2.length:Int))∧dZ (l.getD a_1 0+u2.getD a 0)∧(sO l u2 s a a_1).length+1≤1000000000∧dZ ((↑a_1:Int)+1)∧∃ (a_2:Nat),s=s∧yI bZ.den∧sO l u2 s a a_1++[l.getD a_1 0+u2.getD a 0]=sO l u2 s a a_2∧v62.q1 a a_1 u2 u l w ls l2 w2 EN a_2) (dZ ((↑a_1:Int)+1)∧∃ (a_2:Nat),s=s∧yI bZ.den∧sO l u2 s a a_1=sO l u2 s a a_2∧v62.q1 a a_1 u2 u l w ls l2 w2 EN a_2)) (dZ ((↑a:Int)+1)∧∃ (a_2:Nat),s=s∧yI bZ.den∧sO l u2 s a a_1=eU l u2 s a_2∧(↑a:Int)+1=(↑a_2:Int)∧u=u∧l=l∧w=w∧ls=ls∧u2=u2∧l2=l2∧w2=w2∧EN=EN∧a_2≤u2.length∧u2.length-a_2<u2.length-a)) (eU l u2 s a=eU l u2 s u2.length∧True)) (by kernel_rfl) ?_
  unfold v62.q1
  obtain⟨h1,h2,h3,h4,-⟩:=hp
  change List Int at l u2
  simp only[cC,cM,cL,c9,gE,dZ,and_true,true_and,eq_self]
  refine⟨⟨0,rfl,by omega,by omega,by omega⟩,fun i k1=>⟨fun k2=>⟨⟨0,by rw[sO,if_neg (by omega)],by omega,by omega,by omega⟩,fun k k3=>⟨fun k4=>⟨by omega,fun k5=>⟨by omega,by omega,?_,?_,by omega,k+1,?_,by omega,by omega,by omega⟩,fun k5=>⟨by omega,k+1,?_,by omega,by omega,by omega⟩⟩,fun k4=>⟨by omega,i+1,?_,by omega,by omega,by omega⟩⟩⟩,fun k2 => ?_⟩⟩
  · have:=wH h3 (i:=k) (by omega)
    have:=wH h4 (i:=i) (by omega)
    omega
  · have:=Ej l u2 s i
    rw[sO,if_neg (by omega)]; omega
  · rw[sO,if_neg (by omega),sO,if_pos (by omega),show ((i:Int)+s).toNat=k by omega,Int.add_comm]
  · by_cases h:0≤(i:Int)+s∧(i:Int)+s<k
    · rw[sO,if_pos h,sO,if_pos (by omega)]
    · rw[sO,if_neg h,sO,if_neg (by omega)]
  · rw[show k=l.length by omega]; rfl
  · rw[show i=u2.length by omega]
def D64:List TV→Dn
  | [.sl (.int .i64) l .no]=>some ([0<l.length,l.length≤1000],.res (.tup [dn (oc l).1,dn (oc l).2.1]) [] [],
    [(4,.ex Nat fun i => .ex Int fun lo => .ex Int fun hi => .st { sl:=[(4,dn lo),(5,dn hi),(6,dn i)],eF:=[i≤l.length,0<i,oc (l.take i)=(lo,hi,(i:Int))],m:=l.length-i })])
  | _=>none
theorem v64:VI T0 Tryz.f118 [some bZ,some bZ] D64:=by
  refine lC fun a => ?_
  unfold D64
  split
  rotate_left
  · trivial
  rename_i l
  intro hp
  refine Dd (A:=((0:Int)≤0∧0<(↑l.length:Int))∧((0:Int)≤0∧0<(↑l.length:Int))∧(∃ (a:Nat),∃ (a_1:Int),∃ (a_2:Int),l.getD 0 0=a_1∧l.getD 0 0=a_2∧1=(↑a:Int)∧a≤l.length∧0<a∧oc (List.take a l)=(a_1,a_2,(↑a:Int))∧l.length-a<1000000)∧∀ (a:Nat) (a_1 a_2:Int),a≤l.length→0<a→oc (List.take a l)=(a_1,a_2,(↑a:Int))→aN (decide ((↑a:Int)<(↑l.length:Int))) ((0≤(↑a:Int)∧(↑a:Int)<(↑l.length:Int))∧(0≤(↑a:Int)∧(↑a:Int)<(↑l.length:Int))∧dZ ((↑a:Int)+1)∧∃ (a_3:Nat),∃ (a_4:Int),∃ (a_5:Int),l=l∧(0:Int)=0∧(0:Int)=0∧(if l.getD a 0<a_1 then l.getD a 0 else a_1)=a_4∧(if l.getD a 0>a_2 then l.getD a 0 else a_2)=a_5∧(↑a:Int)+1=(↑a_3:Int)∧a_3≤l.length∧0<a_3∧oc (List.take a_3 l)=(a_4,a_5,(↑a_3:Int))∧l.length-a_3<l.length-a) (a_1=(oc l).fst∧a_2=(oc l).snd.fst∧True)) (by kernel_rfl) ?_
  obtain⟨h1,h2,-⟩:=hp
  change List Int at l
  simp only[cC,cM,cL,c9,gE,dZ,and_true,true_and,eq_self]
  refine⟨by omega,by omega,⟨1,_,_,rfl,rfl,rfl,by omega,by omega,?_,by omega⟩,fun i lo hi k1 k2 k3=>⟨fun k4=>⟨by omega,by omega,by omega,i+1,_,_,rfl,rfl,by omega,by omega,by omega,?_,by omega⟩,fun k4 => ?_⟩⟩
  · obtain⟨x,m,rfl⟩:∃ x m,l=x::m:=by cases l with
      | nil=>exact absurd h1 (by decide)
      | cons x m=>exact⟨x,m,rfl⟩
    rw[List.take_one]; simp[oc,M6]
  · rw[take_one (by omega),Ct k3 (by omega)]; simp
  · rw[show i=l.length by omega,fo] at k3
    rw[k3]; exact⟨rfl,rfl⟩
def G4:gD:=(T0.dX 117 fun a=>dS (D62 a)).dX 118 fun a=>dS (D64 a)
def D63:List TV→Dn
  | [.agg [.sl (.int .i64) au .no,.sl (.int .i64) al .no,.val (.int .i64 aw),.sl (.int .i64) aq .no],.agg [.sl (.int .i64) bu .no,.sl (.int .i64) bl .no,.val (.int .i64 bw),.sl (.int .i64) bq .no],.val (.int .i64 s)]=>some ([al.length≤1000,bu.length≤1000,oS al,oS bu,0≤aw,aw≤2,0≤bw,bw≤2],.res (o6 (lz al bu (aw+bw) s)) [] [],[])
  | _=>none
theorem v63:VI G4 Tryz.f80 [some .bool] D63:=by
  refine lC fun a => ?_
  unfold D63
  split
  rotate_left
  · trivial
  rename_i u l w ls u2 l2 w2 EN s
  intro hp
  refine Dd (A:=l.length≤1000∧u2.length≤1000∧oS l∧oS u2∧aN (decide ((↑(eU l u2 s u2.length).length:Int)<3)) (false=lz l u2 (w+w2) s∧True) (0<(eU l u2 s u2.length).length∧(eU l u2 s u2.length).length≤1000∧dZ ((oc (eU l u2 s u2.length)).snd.fst-(oc (eU l u2 s u2.length)).fst)∧dZ (w+w2)∧decide ((oc (eU l u2 s u2.length)).snd.fst-(oc (eU l u2 s u2.length)).fst≤w+w2)=lz l u2 (w+w2) s∧True)) (by kernel_rfl) ?_
  obtain⟨h1,h2,h3,h4,w1,w2',w3,w4,-⟩:=hp
  have e:=JQ (eU l u2 s u2.length)
  have b:=HO s h3 h4
  unfold stA at b
  have:=Ej l u2 s u2.length
  simp only[cC,cM,cL,c9,gE,dZ,and_true,true_and,eq_self]
  refine⟨by omega,by omega,h3,h4,fun k => ?_,fun k=>⟨by omega,by omega,by omega,by omega,?_⟩⟩
  · rw[lz,eq_comm,decide_eq_false_iff_not]; omega
  · rw[lz,nE]; omega
def G5:gD:=(((G3.dX 96 fun a=>dS (D61 a)).dX 117 fun a=>dS (D62 a)).dX 80 fun a=>dS (D63 a)).dX 118 fun a=>dS (D64 a)
def shK (la ub:List Int) (w:Int) (k:Nat):List Int:=((List.range k).map fun(j:Nat)=>(j:Int)-8).filter (lz la ub w)
def D66:List TV→Dn
  | [.agg [.sl (.int .i64) au .no,.sl (.int .i64) al .no,.val (.int .i64 aw),.sl (.int .i64) aq .no],.agg [.sl (.int .i64) bu .no,.sl (.int .i64) bl .no,.val (.int .i64 bw),.sl (.int .i64) bq .no]]=>some ([Ok au al aw aq,Ok bu bl bw bq],.res (.sl bZ (Bz al bu (aw+bw) (bu.length+al.length+1)) .no) [] [],
    [(4,.ex Nat fun k => .st { sl:=[(5,.sl bZ (shK al bu (aw+bw) k) (.oR 2)),(6,dn ((k:Int)-8))],own:=[(3,1)],eF:=[k≤17],m:=17-k })])
  | _=>none
def G6:gD:=G5.dX 109 fun a=>dS (D66 a)
def KY (p:PD):Bool:=decide (p.1.length≤20∧p.2.1.length≤20∧p.2.2.2.1.length≤20)
theorem S6 {l:List PD} {i:Nat} {d:PD} (h:i<l.length) (h1:(l.take i).all KY=true) (h2:KY (l.getD i d)=true):(l.take (i+1)).all KY=true:=by
  have e:l.getD i d=l[i]:=by simp[aO,h]
  rw[e] at h2
  rw[← List.take_append_getElem h,kM,h1,List.all_cons,h2]; rfl
theorem HT {l:List PD} {i:Nat} {d:PD} (h:i<l.length) (h2:KY (l.getD i d)=false):l.all KY=false:=by
  have e:l.getD i d=l[i]:=by simp[aO,h]
  rw[e] at h2
  refine Bool.eq_false_iff.2 fun h1 => ?_
  rw[aW.1 h1 _ (pI h)] at h2
  cases h2
def D18:List TV→Dn
  | [.sl (.pair (.sl (.int .i64)) (.pair (.sl (.int .i64)) (.pair (.int .i64) (.pair (.sl (.int .i64)) .unit)))) l .no]=>some ([],.ex Bool fun b => .res (o6 b) [] [b=(decide (l.length≤20)&&l.all KY)],[(3,.ex Nat fun i => .st { sl:=[(3,dn i)],eF:=[i≤l.length,i≤20,(l.take i).all KY=true],m:=20-i })])
  | _=>none
def v18.q1 (p0:List (fD).den) (p1:Bool):Prop:=∃ (a:Bool),p1=a∧a=(decide (p0.length≤20)&&p0.all KY)∧True
theorem v18:VI T0 Tryz.f11 [some .bool] D18:=by
  refine lC fun a => ?_
  unfold D18
  split
  rotate_left
  · trivial
  rename_i l
  intro hp
  refine Dd (A:=(∃ (a:Nat),0=(↑a:Int)∧a≤l.length∧a≤20∧(List.take a l).all KY=true∧20-a<1000000)∧∀ (a:Nat),a≤l.length→a≤20→(List.take a l).all KY=true→aN (decide ((↑a:Int)<(↑l.length:Int))) (aN (decide ((↑a:Int)<20)) ((0≤(↑a:Int)∧(↑a:Int)<(↑l.length:Int))∧aN (decide ((↑(List.length (l.getD a ([],[],0,[],())).fst):Int)>20)) (v18.q1 l false) ((0≤(↑a:Int)∧(↑a:Int)<(↑l.length:Int))∧aN (decide ((↑(List.length (l.getD a ([],[],0,[],())).snd.fst):Int)>20)) (v18.q1 l false) ((0≤(↑a:Int)∧(↑a:Int)<(↑l.length:Int))∧aN (decide ((↑(List.length (l.getD a ([],[],0,[],())).snd.snd.snd.fst):Int)>20)) (v18.q1 l false) (dZ ((↑a:Int)+1)∧∃ (a_1:Nat),l=l∧(↑a:Int)+1=(↑a_1:Int)∧a_1≤l.length∧a_1≤20∧(List.take a_1 l).all KY=true∧20-a_1<20-a)))) (v18.q1 l (decide ((↑l.length:Int)≤20)))) (v18.q1 l (decide ((↑l.length:Int)≤20)))) (by kernel_rfl) ?_
  unfold v18.q1
  change List PD at l
  simp only[cC,cM,cL,c9,gE,dZ,and_true,true_and,eq_self]
  refine⟨⟨0,rfl,by omega,by omega,rfl,by omega⟩,fun i k1 k2 k3=>⟨fun k4=>⟨fun k5=>⟨by omega,fun k6=>⟨_,rfl,?_⟩,fun k6=>⟨by omega,fun k7=>⟨_,rfl,?_⟩,fun k7=>⟨by omega,fun k8=>⟨_,rfl,?_⟩,fun k8=>⟨by omega,i+1,by omega,by omega,by omega,S6 (d:=([],[],0,[],())) (by omega) k3 (iF ⟨by omega,by omega,by omega⟩),by omega⟩⟩⟩⟩,fun k5=>⟨_,rfl,?_⟩⟩,fun k4=>⟨_,rfl,?_⟩⟩⟩
  · rw[HT (i:=i) (d:=([],[],0,[],())) (by omega) (fe fun h=>by omega),lX]
  · rw[HT (i:=i) (d:=([],[],0,[],())) (by omega) (fe fun h=>by omega),lX]
  · rw[HT (i:=i) (d:=([],[],0,[],())) (by omega) (fe fun h=>by omega),lX]
  · rw[fe (by omega),fe (by omega)]; rfl
  · rw[show i=l.length by omega,fo] at k3
    rw[k3,Bool.and_true,nE]; omega
def S58:List TV→Sp
  | [.sl (.int .i64) l .no]=>some ([l.length≤1000],.res (.sl bZ l .no) [] [])
  | _=>none
def T0d:gD:=T0.dX 43 S58
def D20:List TV→Dn
  | [.agg [.sl (.int .i64) au .no,.sl (.int .i64) al .no,.val (.int .i64 aw),.sl (.int .i64) aq .no]]=>some ([Sh au al aq],.res (M9 au al aw aq) [] [],[])
  | _=>none
theorem v20:VI T0d Tryz.f42 [some fD] D20:=by
  refine lC fun a => ?_
  unfold D20
  split
  rotate_left
  · trivial
  rename_i u l w ls
  intro hp
  refine Dd (A:=u.length≤1000∧l.length≤1000∧ls.length≤1000∧u=u∧l=l∧w=w∧ls=ls∧True) (by kernel_rfl) ?_
  obtain⟨h1,h2,h3⟩:=hp.1
  exact⟨h1,h2,h3,rfl,rfl,rfl,rfl,trivial⟩
def D25:List TV→Dn
  | [.sl (.int .i64) l .no,.sl (.int .i64) m .no]=>some ([l.length≤1000,m.length≤1000],.res (o6 (decide (l=m))) [] [],[(4,.ex Nat fun i => .ex Bool fun b => .st { sl:=[(5,o6 b),(6,dn i)],eF:=[i≤l.length,b=decide (l.length=m.length∧l.take i=m.take i)],m:=l.length-i })])
  | _=>none
theorem v25:VI T0 Tryz.f49 [some .bool] D25:=by
  refine lC fun a => ?_
  unfold D25
  split
  rotate_left
  · trivial
  rename_i l m
  intro hp
  refine Dd (A:=(∃ (a:Nat),∃ (a_1:Bool),((↑l.length:Int)==(↑m.length:Int))=a_1∧0=(↑a:Int)∧a≤l.length∧a_1=decide (l.length=m.length∧List.take a l=List.take a m)∧l.length-a<1000000)∧∀ (a:Nat) (a_1:Bool),a≤l.length→a_1=decide (l.length=m.length∧List.take a l=List.take a m)→aN a_1 (aN (decide ((↑a:Int)<(↑l.length:Int))) ((0≤(↑a:Int)∧(↑a:Int)<(↑l.length:Int))∧(0≤(↑a:Int)∧(↑a:Int)<(↑m.length:Int))∧dZ ((↑a:Int)+1)∧∃ (a_2:Nat),∃ (a_3:Bool),l=l∧m=m∧false=false∧(l.getD a 0==m.getD a 0)=a_3∧(↑a:Int)+1=(↑a_2:Int)∧a_2≤l.length∧a_3=decide (l.length=m.length∧List.take a_2 l=List.take a_2 m)∧l.length-a_2<l.length-a) (a_1=decide (l=m)∧True)) (a_1=decide (l=m)∧True)) (by kernel_rfl) ?_
  obtain⟨h1,h2,-⟩:=hp
  simp only[cC,cM,dZ,and_true,true_and,eq_self]
  refine⟨⟨0,_,rfl,rfl,by omega,?_,by omega⟩,fun i b h3 h4 => ?_⟩
  · rw[Bool.eq_iff_iff]; simp; omega
  rw[lq]
  subst h4
  simp only[bJ,decide_eq_false_iff_not]
  refine⟨fun h5=>⟨fun h6=>⟨by omega,by omega,by omega,i+1,_,rfl,by omega,by omega,?_,by omega⟩,fun h6 => ?_⟩,fun h5 => ?_⟩
  · rw[Bool.eq_iff_iff,bJ,take_one (by omega),take_one (by omega),cV]
    refine⟨fun h=>⟨h5.1,by rw[h5.2,h]⟩,fun h => ?_⟩
    have:=List.append_inj_right' h.2 rfl
    simpa using this
  · rw[nE]
    have e1:=h5.2
    rw[vq (by omega),vq (by omega)] at e1
    exact⟨fun _=>e1,fun h=>h5⟩
  · rw[nE]
    exact⟨fun h=>absurd h h5,fun h=>by subst h; exact absurd ⟨rfl,rfl⟩ h5⟩
def G7:gD:=T0.dX 49 fun a=>dS (D25 a)
def D26:List TV→Dn
  | [.agg [.sl (.int .i64) au .no,.sl (.int .i64) al .no,.val (.int .i64 aw),.sl (.int .i64) aq .no],.agg [.sl (.int .i64) bu .no,.sl (.int .i64) bl .no,.val (.int .i64 bw),.sl (.int .i64) bq .no]]=>some ([Sh au al aq,Sh bu bl bq],.res (o6 (decide (au=bu∧al=bl∧aw=bw∧aq=bq))) [] [],[])
  | _=>none
theorem v26:VI G7 Tryz.f48 [some .bool] D26:=by
  refine lC fun a => ?_
  unfold D26
  split
  rotate_left
  · trivial
  rename_i u l w ls u2 l2 w2 EN
  intro hp
  refine Dd (A:=u.length≤1000∧u2.length≤1000∧aN (decide (u=u2)) (l.length≤1000∧l2.length≤1000∧aN (decide (l=l2)) (aN (w==w2) (ls.length≤1000∧EN.length≤1000∧decide (ls=EN)=decide (u=u2∧l=l2∧w=w2∧ls=EN)∧True) (false=decide (u=u2∧l=l2∧w=w2∧ls=EN)∧True)) (false=decide (u=u2∧l=l2∧w=w2∧ls=EN)∧True)) (false=decide (u=u2∧l=l2∧w=w2∧ls=EN)∧True)) (by kernel_rfl) ?_
  obtain⟨⟨a1,a2,a3⟩,⟨b1,b2,b3⟩,-⟩:=hp
  simp only[cC,cM,and_true]
  refine⟨a1,b1,fun h1=>⟨a2,b2,fun h2=>⟨fun h3=>⟨a3,b3,?_⟩,fun h3 => ?_⟩,fun h2 => ?_⟩,fun h1 => ?_⟩
  · rw[nE]; exact⟨fun h=>⟨h1,h2,h3,h⟩,fun h=>h.2.2.2⟩
  · rw[fe fun h=>h3 h.2.2.1]
  · rw[fe fun h=>h2 h.2.1]
  · rw[fe fun h=>h1 h.1]
theorem XU {p:PD} (h:KY p=true):jJ p:=by
  have:=of_decide_eq_true h
  exact⟨by omega,by omega,by omega⟩
structure Su (bC:bM):Prop where
  dup:∀ (l:List Int) d,l.length≤1000→RT eB [] (.sl bZ l .no) d→∃ r,bC 43 [d]=some r∧r.pure=true∧RT eB [] (.sl bZ l .no) r
section
variable {bC:bM} (tk:yQ bC) (tu:Su bC)
theorem VR {T:gD} {k:Nat} (tu:Su bC) (hT:kF bC k T):kF bC k (T.dX 43 S58):=NY hT fun n a p s hs hp=>by
  unfold S58 at hs
  split at hs
  · rename_i l
    cases hs
    intro bY hd
    obtain⟨d,_,rfl,h1,h2⟩:=ax hd
    rw[aU h2]
    obtain⟨r,k1,k2,k3⟩:=tu.dup l d hp.1 h1
    exact⟨r,_,by simp only[yJ,jH,k1,k2,if_true],k2,k3,rfl,rfl,trivial⟩
  · cases hs
include tk
theorem aaG:kF bC 1 G1:=rF tk (gf tk) (by decide) Tryz.func100 rfl v107 (ia (gf tk))
theorem aaF:kF bC 2 G2:=rF tk (aaG tk) (by decide) Tryz.func93 rfl ab8 (ia (aaG tk))
theorem aaE:kF bC 3 G3:=rF tk (aaF tk) (by decide) Tryz.func92 rfl v91 (ia (aaF tk))
theorem aaD:kF bC 1 G4:=rF tk (gf tk) (by decide) Tryz.func118 rfl v64 (rF tk (gf tk) (by decide) Tryz.func117 rfl v62 (ia (gf tk)))
theorem adb:kF bC 1 G7:=rF tk (gf tk) (by decide) Tryz.func49 rfl v25 (ia (gf tk))
end
end Go.Tv
end
section
namespace Go.Tv
open Go Go.Di Go.Proofs
def XE (la ub:List Int) (nb k:Nat):List Int:=((List.range k).map fun(j:Nat)=>(j:Int)-(nb:Int)).filterMap fun s=>if 3≤(stA la ub s).2.2 then some ((stA la ub s).2.1-(stA la ub s).1) else none
def XC (ua la:List Int) (x:Int) (ub lb:List Int) (y:Int):List Int:=XE (o5 x ua la) (oZ y ub lb) ub.length (ub.length+ua.length+1)
def XD (ua la ub lb ys:List Int) (x:Int):List Int:=ys.flatMap (XC ua la x ub lb)
def adn (ua la VZ ub lb VY:List Int):List Int:=VZ.flatMap (XD ua la ub lb VY)
end Go.Tv
end
section
namespace Go.Tv
open Go Go.Di Go.Proofs
set_option maxRecDepth 100000
structure Sv (bC:bM):Prop where
 rev:∀ (l:List Int) d,l.length≤1000000→RT eB [] (.sl bZ l .no) d→∃ r,bC 133 [d]=some r∧r.pure=true∧RT eB [] (.sl bZ l.reverse .no) r
def Xk:List TV→Sp
 | [.sl (.int .i64) l .no]=>some ([l.length≤1000000],.res (.sl bZ l.reverse .no) [] [])
 | _=>none
def Ze:List TV→Dn
 | [.sl (.int .i64) l .no]=>some ([l≠[],l.length≤1000],.res (.sl bZ l .no) [] [],[])
 | _=>none
theorem v79:VI T0 Tryz.f91 [some cE] Ze:=by
 intro a p s j h hp
 unfold Ze at h
 split at h<;>cases h
 rename_i l
 change List Int at l
 obtain⟨h1,h2,-⟩:=hp
 refine vY (A:=l≠[]∧0+l.length≤1000000000∧l=l∧True) (by kernel_rfl) ?_
 exact⟨h1,by omega,rfl,trivial⟩
def D98:List TV→Dn
 | [.sl (.int .i64) l .no,.val (.int .i64 x)]=>some ([l.length≤1000],.res (dn (qR l x)) [] [],[(3,.ex Nat fun i => .st { sl:=[(8,dn i)],eF:=[i≤l.length,x ∉ l.take i],m:=l.length-i })])
 | _=>none
theorem v98:VI T0 Tryz.f122 [some bZ] D98:=by
 intro a p s j h hp
 unfold D98 at h
 split at h<;>cases h
 rename_i l x
 change List Int at l
 have h1:=hp.1
 refine vY (A:=(∃ (a:Nat),0=(↑a:Int)∧a≤l.length∧¬x∈List.take a l∧l.length-a<1000000)∧∀ (a:Nat),a≤l.length→¬x∈List.take a l→aN (decide ((↑a:Int)<(↑l.length:Int))) ((0≤(↑a:Int)∧(↑a:Int)<(↑l.length:Int))∧aN (x==l.getD a 0) ((↑a:Int)=qR l x∧True) (dZ ((↑a:Int)+1)∧∃ (a_3:Nat),l=l∧x=x∧(↑l.length:Int)=(↑l.length:Int)∧(↑a:Int)+1=(↑a_3:Int)∧a_3≤l.length∧¬x∈List.take a_3 l∧l.length-a_3<l.length-a)) ((-1:Int)=qR l x∧True)) (by kernel_rfl) ?_
 simp only[cC,cM,cL,c9,gE,dZ,and_true,true_and,eq_self]
 refine⟨⟨0,by omega,by omega,by simp,by omega⟩,fun i h2 h3=>⟨fun h4=>⟨by omega,fun h5 => ?_,fun h5=>⟨by omega,i+1,by omega,by omega,?_,by omega⟩⟩,fun h4 => ?_⟩⟩
 ·rw[Ms (by omega) h3 h5.symm]
 ·rw[take_one (by omega)]; simp only[jO,bH,not_or]; exact⟨h3,h5⟩
 ·rw[show i=l.length by omega,fo] at h3; rw[qR,if_neg h3]
def D99:List TV→Dn
 | [.agg [.sl (.int .i64) u .no,.sl (.int .i64) l .no]]=>some ([],.res (Z0 u l) [] [],[])
 | _=>none
theorem v99:VI T0 Tryz.f123 [some (.pair cE (.pair cE .unit))] D99:=by
 intro a p s j h hp
 unfold D99 at h
 split at h<;>cases h
 rename_i u l
 refine vY (A:=u=u∧l=l∧True) (by kernel_rfl) ?_
 exact⟨rfl,rfl,trivial⟩
def T0r:gD:=T0.dX 133 Xk
def Xy:List TV→Dn
 | [.agg [.sl (.int .i64) u .no,.sl (.int .i64) l .no]]=>some ([u.length≤1000,l.length≤1000],.res (Z0 l.reverse u.reverse) [] [],[])
 | _=>none
theorem acd:VI T0r Tryz.f124 [some (.pair cE (.pair cE .unit))] Xy:=by
 intro a p s j h hp
 unfold Xy at h
 split at h<;>cases h
 rename_i u l
 obtain⟨h1,h2,-⟩:=hp
 refine vY (A:=l.length≤1000000∧u.length≤1000000∧l.reverse=l.reverse∧u.reverse=u.reverse∧True) (by kernel_rfl) ?_
 exact⟨by omega,by omega,rfl,rfl,trivial⟩
def Xx:List TV→Dn
 | [.agg [.sl (.int .i64) u .no,.sl (.int .i64) l .no]]=>some ([u.length≤1000,l.length≤1000],.res (Z0 u.reverse l.reverse) [] [],[])
 | _=>none
theorem ab9:VI T0r Tryz.f125 [some (.pair cE (.pair cE .unit))] Xx:=by
 intro a p s j h hp
 unfold Xx at h
 split at h<;>cases h
 rename_i u l
 obtain⟨h1,h2,-⟩:=hp
 refine vY (A:=u.length≤1000000∧l.length≤1000000∧u.reverse=u.reverse∧l.reverse=l.reverse∧True) (by kernel_rfl) ?_
 exact⟨by omega,by omega,rfl,rfl,trivial⟩
def Xw:List TV→Dn
 | [.agg [.sl (.int .i64) u .no,.sl (.int .i64) l .no]]=>some ([],.res (Z0 l u) [] [],[])
 | _=>none
theorem Z8:VI T0 Tryz.f126 [some (.pair cE (.pair cE .unit))] Xw:=by
 intro a p s j h hp
 unfold Xw at h
 split at h<;>cases h
 rename_i u l
 refine vY (A:=l=l∧u=u∧True) (by kernel_rfl) ?_
 exact⟨rfl,rfl,trivial⟩
def U1:gD:=(((((T0r.dX 91 fun a=>dS (Ze a)).dX 122 fun a=>dS (D98 a)).dX 123 fun a=>dS (D99 a)).dX 124 fun a=>dS (Xy a)).dX 125 fun a=>dS (Xx a)).dX 126 fun a=>dS (Xw a)
def Z6:List TV→Dn
 | [.sl (.int .i64) l .no,.val (.int .i64 x)]=>some ([l.length≤1000],.res (o6 (decide (x∈l))) [] [],[])
 | _=>none
theorem v80:VI U1 Tryz.f95 [some .bool] Z6:=by
 intro a p s j h hp
 unfold Z6 at h
 split at h<;>cases h
 rename_i l x
 change List Int at l
 have h1:=hp.1
 refine vY (A:=l.length≤1000∧decide (qR l x≥0)=decide (x∈l)∧True) (by kernel_rfl) ?_
 refine⟨h1,?_,trivial⟩
 rw[nE,qR]
 split<;>simp_all
def D83:List TV→Dn
 | [.val (.int .i64 n),.agg [.sl (.int .i64) u .no,.sl (.int .i64) l .no]]=>some ([u.length≤1000,l.length≤1000,0≤n,n≤3],.res (Z0 (oZ n u l) (o5 n u l)) [] [],[])
 | _=>none
def U2:gD:=(U1.dX 95 fun a=>dS (Z6 a)).dX 98 fun a=>dS (D83 a)
abbrev wkV (u l:List Int) (w:Int) (ls:List Int):TV := .agg [.sl bZ u .no,.sl bZ l .no,dn w,.sl bZ ls .no,.sl bZ u .no,.sl bZ l .no,.sl bZ l.reverse .no,.sl bZ u.reverse .no,.sl bZ u.reverse .no,.sl bZ l.reverse .no,.sl bZ l .no,.sl bZ u .no]
def D50:List TV→Dn
 | [.agg [.sl (.int .i64) u .no,.sl (.int .i64) l .no,.val (.int .i64 w),.sl (.int .i64) ls .no]]=>some ([u.length≤1000,l.length≤1000],.res (wkV u l w ls) [] [],[(4,.un 5)])
 | _=>none
section
variable {bC:bM} (tk:yQ bC) (tr:Sv bC)
theorem iP {k:Nat} {T:gD} (h:kF bC k T):∀ m,kF bC (m+k) T
 | 0=>by rwa [gQ]
 | m+1=>by have:=ia (iP h m); rwa [Nat.add_right_comm] at this
theorem Ik {T:gD} {k:Nat} (tr:Sv bC) (hT:kF bC k T):kF bC k (T.dX 133 Xk):=NY hT fun n a p s hs hp=>by
 unfold Xk at hs
 split at hs
 ·rename_i l
  cases hs
  intro bY hd
  obtain⟨d,_,rfl,h1,h2⟩:=ax hd
  rw[aU h2]
  obtain⟨r,k1,k2,k3⟩:=tr.rev l d hp.1 h1
  exact⟨r,_,by simp only[yJ,jH,k1,k2,if_true],k2,k3,rfl,rfl,trivial⟩
 ·cases hs
include tk tr
theorem ace:kF bC 1 U1:=rF tk (gf tk) (by decide) Tryz.func126 rfl Z8 (rF tk (Ik tr (gf tk)) (by decide) Tryz.func125 rfl ab9 (rF tk (Ik tr (gf tk)) (by decide) Tryz.func124 rfl acd (rF tk (gf tk) (by decide) Tryz.func123 rfl v99 (rF tk (gf tk) (by decide) Tryz.func122 rfl v98 (rF tk (gf tk) (by decide) Tryz.func91 rfl v79 (ia (Ik tr (gf tk))))))))
def W8:gD:=((T8.dX 91 fun a=>dS (Ze a)).dX 95 fun a=>dS (Z6 a)).dX 61 fun a=>dS (D50 a)
end
end Go.Tv
end
section
namespace Go.Tv
open Go Go.Di Go.Proofs
set_option maxRecDepth 100000
def jD (u l:List Int) (w:Int) (q c:List Int):Int:=if iW u l w q≠0 then iW u l w q else if c.length<u.length then 7 else if u.length<c.length then 6 else if c.all (lg 9)=true then 0 else 1
def sI (u l:List Int) (w:Int) (q c:List Int):PD:=if jD u l w q c=0 then pd u c w q else pd [] [] 0 []
def sJ (u l:List Int) (w:Int) (q c:List Int):PD:=if jD u l w q c=0 then pd (c.map fun x=>9-x) l w q else pd [] [] 0 []
def Xs:List TV→Dn
  | [.agg [.sl (.int .i64) u .no,.sl (.int .i64) l .no,.val (.int .i64 w),.sl (.int .i64) q .no],.sl (.int .i64) c .no]=>some ([Sh u l q,c.length≤1000],.ex (List Int) fun u1 => .ex (List Int) fun l1 => .ex Int fun w1 => .ex (List Int) fun q1 => .ex (List Int) fun u2 => .ex (List Int) fun l2 => .ex Int fun w2 => .ex (List Int) fun q2 => .ex Int fun e => .res (.tup [M9 u1 l1 w1 q1,M9 u2 l2 w2 q2,dn e]) [] [pd u1 l1 w1 q1=sI u l w q c,pd u2 l2 w2 q2=sJ u l w q c,e=jD u l w q c],
    [(2,.ex Int fun e => .st { sl:=[(6,dn e)],eF:=[e=jD u l w q c] }),
     (14,.dep fun te tS=>match te.getD 5 .unk with
    | .ptr p _ => .ex Nat fun i => .st { sl:=[(59,dn i)],pl:=[(p,[.sl bZ ((c.take i).map (9-·)) (.oR tS.length),.sl bZ l .no,dn w,.sl bZ q .no])],own:=[(3,1)],eF:=[i≤c.length],m:=c.length-i }
    | _ => .un 0)])
  | _=>none
theorem OJ {u l q c:List Int} {w:Int} (h:jD u l w q c=0):Ok u l w q∧c.length=u.length∧oS c:=by
  unfold jD at h
  split at h
  · rename_i h1; exact(h1 h).elim
  · rename_i h1
    split at h
    · cases h
    · split at h
      · cases h
      · split at h
        · rename_i h2 h3 h4
          exact⟨Ij.1 (Decidable.not_not.1 h1),by omega,vp.1 h4⟩
        · cases h
theorem tL {k:List Int} (h:0<k.length):k≠[]:=fun e=>by rw[e] at h; cases h
def R1:gD:=T8.dX 91 fun a=>dS (Ze a)
def EZ.q1 (p0 p1 p2:List bZ.den) (p3:Int) (p4:List bZ.den) (p5:Int):Prop:=∃ (a:Int),p0=p0∧p5=a∧p1=p1∧p2=p2∧p3=p3∧p4=p4∧(0:Int)=0∧(0:Int)=0∧a=jD p1 p2 p3 p4 p0∧True
theorem EZ:VI R1 Tryz.f44 [some fD,some fD,some bZ] Xs:=by
  refine lC fun a => ?_
  unfold Xs
  split
  rotate_left
  · trivial
  rename_i u l w q c
  intro hp
  refine Dd (A:=Sh u l q∧aN (iW u l w q !=0) (EZ.q1 c u l w q (iW u l w q)) (aN (decide ((↑c.length:Int)<(↑u.length:Int))) (EZ.q1 c u l w q (7:Int)) (aN (decide ((↑c.length:Int)>(↑u.length:Int))) (EZ.q1 c u l w q (6:Int)) (c.length≤1000∧aN (!c.all (lg (9:Int))) (EZ.q1 c u l w q (1:Int)) (EZ.q1 c u l w q (iW u l w q)))))∧∀ (a:Int),a=jD u l w q c→aN (a !=0) (∃ (a_1:List Int),∃ (a_2:List Int),∃ (a_3:Int),∃ (a_4:List Int),∃ (a_5:List Int),∃ (a_6:List Int),∃ (a_7:Int),∃ (a_8:List Int),∃ (a_9:Int),[]=a_1∧[]=a_2∧0=a_3∧[]=a_4∧[]=a_5∧[]=a_6∧0=a_7∧[]=a_8∧a=a_9∧pd a_1 a_2 a_3 a_4=sI u l w q c∧pd a_5 a_6 a_7 a_8=sJ u l w q c∧a_9=jD u l w q c∧True) (u≠[]∧u.length≤1000∧c≠[]∧c.length≤1000∧q≠[]∧q.length≤1000∧l≠[]∧l.length≤1000∧q≠[]∧q.length≤1000∧(∃ (a:Nat),0=(↑a:Int)∧[]=List.map (fun(x:bZ.den)=>(9:bZ.den)-x) (List.take a c)∧l=l∧w=w∧q=q∧a≤c.length∧c.length-a<1000000)∧∀ (a_1:Nat),a_1≤c.length→aN (decide ((↑a_1:Int)<(↑c.length:Int))) ((0≤(↑a_1:Int)∧(↑a_1:Int)<(↑c.length:Int))∧dZ ((9:Int)-c.getD a_1 0)∧(List.map (fun(x:bZ.den)=>(9:bZ.den)-x) (List.take a_1 c)).length+1≤1000000000∧dZ ((↑a_1:Int)+1)∧∃ (a_2:Nat),a=a∧c=c∧(↑c.length:Int)=(↑c.length:Int)∧(↑a_1:Int)+1=(↑a_2:Int)∧u=u∧l=l∧w=w∧q=q∧u=u∧c=c∧w=w∧q=q∧List.map (fun(x:bZ.den)=>(9:bZ.den)-x) (List.take a_1 c)++[(9:Int)-c.getD a_1 0]=List.map (fun(x:bZ.den)=>(9:bZ.den)-x) (List.take a_2 c)∧l=l∧w=w∧q=q∧a_2≤c.length∧c.length-a_2<c.length-a_1) (∃ (a:List Int),∃ (a_2:List Int),∃ (a_3:Int),∃ (a_4:List Int),∃ (a_5:List Int),∃ (a_6:List Int),∃ (a_7:Int),∃ (a_8:List Int),∃ (a_9:Int),u=a∧c=a_2∧w=a_3∧q=a_4∧List.map (fun(x:bZ.den)=>(9:bZ.den)-x) (List.take a_1 c)=a_5∧l=a_6∧w=a_7∧q=a_8∧0=a_9∧pd a a_2 a_3 a_4=sI u l w q c∧pd a_5 a_6 a_7 a_8=sJ u l w q c∧a_9=jD u l w q c∧True))) (by kernel_rfl) ?_
  unfold EZ.q1
  obtain⟨⟨s1,s2,s3⟩,hc,-⟩:=hp
  simp only[cL,cC,c9,eq_self,true_and,and_true,dZ,Int.ofNat_lt,gt_iff_lt]
  refine⟨⟨s1,s2,s3⟩,⟨fun e0=>⟨fun h=>⟨_,rfl,by rw[jD,if_neg fun k=>k e0,if_pos h]⟩,fun h1=>⟨fun h=>⟨_,rfl,by rw[jD,if_neg fun k=>k e0,if_neg h1,if_pos h]⟩,fun h2=>⟨hc,lq.2 ⟨fun h=>⟨_,rfl,by rw[jD,if_neg fun k=>k e0,if_neg h1,if_neg h2,if_pos h]; exact e0⟩,fun h=>⟨_,rfl,by rw[jD,if_neg fun k=>k e0,if_neg h1,if_neg h2,if_neg (by rw[h]; decide)]⟩⟩⟩⟩⟩,fun e0=>⟨_,rfl,by rw[jD,if_pos e0]⟩⟩,fun e he=>⟨fun h0 => ?_,fun h0=>⟨_,_,_,_,_,_,_,_,_,rfl,rfl,rfl,rfl,rfl,rfl,rfl,rfl,rfl,by rw[sI,if_neg (he▸h0)],by rw[sJ,if_neg (he▸h0)],he⟩⟩⟩
  subst he
  obtain⟨h,hl,hh⟩:=OJ h0
  have n:=h.num
  have q0:0<q.length:=List.length_pos_iff.2 h.ne
  refine⟨tL (by omega),s1,tL (by omega),hc,h.ne,s3,tL (by omega),s2,h.ne,s3,⟨0,rfl,rfl,by omega,by omega⟩,fun i hi=>⟨fun Bu => ?_,fun Bu => ?_⟩⟩
  · have:=hh _ (jV (l:=c) (i:=i) (by omega))
    exact⟨⟨by omega,by omega⟩,⟨by omega,by omega⟩,by rw[jh,lY]; omega,⟨by omega,by omega⟩,i+1,by omega,nY (f:=fun x=>9-x) (by omega),by omega,by omega⟩
  · rw[show i=c.length by omega,fo]
    exact⟨_,_,_,_,_,_,_,_,_,rfl,rfl,rfl,rfl,rfl,rfl,rfl,rfl,rfl,by rw[sI,if_pos h0],by rw[sJ,if_pos h0],h0.symm⟩
def dY (a b:List Int):List Int:=a.filter fun x=>decide (x∈b)
section
variable {a bq:List Int} {x:Int}
theorem Gu (h:x∈bq):dY (a++[x]) bq=dY a bq++[x]:=by simp[dY,pL,h]
theorem KN (h:¬ x∈bq):dY (a++[x]) bq=dY a bq:=by simp[dY,pL,h]
end
def qn (a b:PD):Int:=if gK [a,b]≠0 then gK [a,b] else if a.1.length≠b.1.length then 12 else if a.2.2.1+b.2.2.1<(stA a.2.1 b.1 0).2.1-(stA a.2.1 b.1 0).1 then 11 else if dY a.2.2.2.1 b.2.2.2.1=[] then 9 else 0
def yH (a b:PD):PD:=if qn a b=0 then pd a.1 b.2.1 (if a.2.2.1<b.2.2.1 then b.2.2.1 else a.2.2.1) (dY a.2.2.2.1 b.2.2.2.1) else pd [] [] 0 []
def acf (pos sp si:Nat) (au bl aq bq:List Int) (w:Int):List (Nat×LA):=[(pos,.dep fun te tS=>match te.getD sp .unk with
    | .ptr p _ => .ex Nat fun i => .st { sl:=[(si,dn i)],pl:=[(p,[.sl bZ au .no,.sl bZ bl .no,dn w,.sl bZ (dY (aq.take i) bq) (.oR tS.length)])],own:=[(3,1)],eF:=[i≤aq.length],m:=aq.length-i }
    | _ => .un 0)]
def Ll (pos sp si:Nat):List TV→Dn
  | [.agg [.sl (.int .i64) au .no,.sl (.int .i64) al .no,.val (.int .i64 aw),.sl (.int .i64) aq .no],.agg [.sl (.int .i64) bu .no,.sl (.int .i64) bl .no,.val (.int .i64 bw),.sl (.int .i64) bq .no]]=>some ([Sh au al aq,Sh bu bl bq],.ex (List Int) fun u1 => .ex (List Int) fun l1 => .ex Int fun w1 => .ex (List Int) fun q1 => .ex Int fun e => .res (.tup [M9 u1 l1 w1 q1,dn e]) [] [pd u1 l1 w1 q1=yH (pd au al aw aq) (pd bu bl bw bq),e=qn (pd au al aw aq) (pd bu bl bw bq)],acf pos sp si au bl aq bq (if aw<bw then bw else aw))
  | _=>none
theorem nw {A B:PD} (k:Int) (h:qn A B=k) (hk:k≠0):∃ (a a1:List Int) (a2:Int) (a3:List Int) (a4:Int),[]=a∧[]=a1∧0=a2∧[]=a3∧k=a4∧pd a a1 a2 a3=yH A B∧a4=qn A B :=
  ⟨_,_,_,_,_,rfl,rfl,rfl,rfl,rfl,by rw[yH,if_neg (by rw[h]; exact hk)],h.symm⟩
section
variable {A B:PD}
theorem aaa (h:gK [A,B]≠0):qn A B=gK [A,B]:=if_pos h
theorem U3 (h:gK [A,B]=0) (h1:A.1.length≠B.1.length):qn A B=12:=by rw[qn,if_neg fun k=>k h,if_pos h1]
theorem U4 (h:gK [A,B]=0) (h1:A.1.length=B.1.length) (h2:A.2.2.1+B.2.2.1<(stA A.2.1 B.1 0).2.1-(stA A.2.1 B.1 0).1):qn A B=11:=by rw[qn,if_neg fun k=>k h,if_neg fun k=>k h1,if_pos h2]
theorem Z9 (h:gK [A,B]=0) (h1:A.1.length=B.1.length) (h2:¬ A.2.2.1+B.2.2.1<(stA A.2.1 B.1 0).2.1-(stA A.2.1 B.1 0).1) (h3:dY A.2.2.2.1 B.2.2.2.1=[]):qn A B=9:=by rw[qn,if_neg fun k=>k h,if_neg fun k=>k h1,if_neg h2,if_pos h3]
theorem RF (h:gK [A,B]=0) (h1:A.1.length=B.1.length) (h2:¬ A.2.2.1+B.2.2.1<(stA A.2.1 B.1 0).2.1-(stA A.2.1 B.1 0).1) (h3:dY A.2.2.2.1 B.2.2.2.1≠[]):qn A B=0:=by rw[qn,if_neg fun k=>k h,if_neg fun k=>k h1,if_neg h2,if_neg h3]
end
def R2:gD:=((T8.dX 91 fun a=>dS (Ze a)).dX 95 fun a=>dS (Z6 a))
def yG.q1 (p0:List bZ.den) (p1:Nat) (p2 p3:List bZ.den) (p4:Int) (p5 p6:List bZ.den) (p7:Int) (p8:List bZ.den) (p9:Nat) (EM:Prop):Prop:=(0:Int)=0∧p0=p0∧(↑p0.length:Int)=(↑p0.length:Int)∧(↑p1:Int)+1=(↑p9:Int)∧p2=p2∧p3=p3∧p4=p4∧p0=p0∧p5=p5∧p6=p6∧p7=p7∧p8=p8∧(0:Int)=0∧p2=p2∧p6=p6∧((if p4<p7 then p7 else p4)=if p4<p7 then p7 else p4)∧EM
def yG.q2 (p0 p1:List bZ.den) (p2:Int) (p3 p4 p5:List bZ.den) (p6:Int) (p7:List bZ.den) (p8 p9:Int) (EM Nc:List Int) (Na:Int) (VX:List Int):Prop:=p8=p9∧pd EM Nc Na VX=yH (pd p0 p1 p2 p3) (pd p4 p5 p6 p7)∧p9=qn (pd p0 p1 p2 p3) (pd p4 p5 p6 p7)∧True
theorem yG:VI R2 Tryz.f46 [some fD,some bZ] (Ll 15 10 69):=by
  refine lC fun a => ?_
  unfold Ll
  split
  rotate_left
  · trivial
  rename_i au al aw aq bu bl bw bq
  intro hp
  refine Dd (A:=2≤1000∧(∀ (p:(fD).den),p∈[(au,al,aw,aq,()),(bu,bl,bw,bq,())]→jJ p)∧aN (gK [(au,al,aw,aq,()),(bu,bl,bw,bq,())] !=(0:Int)) (∃ (a:List Int),∃ (a_1:List Int),∃ (a_2:Int),∃ (a_3:List Int),∃ (a_4:Int),[]=a∧[]=a_1∧0=a_2∧[]=a_3∧yG.q2 au al aw aq bu bl bw bq (gK [(au,al,aw,aq,()),(bu,bl,bw,bq,())]) a_4 a a_1 a_2 a_3) (aN ((↑au.length:Int) !=(↑bu.length:Int)) (∃ (a:List Int),∃ (a_1:List Int),∃ (a_2:Int),∃ (a_3:List Int),∃ (a_4:Int),[]=a∧[]=a_1∧0=a_2∧[]=a_3∧yG.q2 au al aw aq bu bl bw bq (12:Int) a_4 a a_1 a_2 a_3) (al.length≤1000∧bu.length≤1000∧oS al∧oS bu∧dZ ((stA al bu (0:Int)).snd.fst-(stA al bu (0:Int)).fst)∧dZ (aw+bw)∧aN (decide ((stA al bu (0:Int)).snd.fst-(stA al bu (0:Int)).fst>aw+bw)) (∃ (a:List Int),∃ (a_1:List Int),∃ (a_2:Int),∃ (a_3:List Int),∃ (a_4:Int),[]=a∧[]=a_1∧0=a_2∧[]=a_3∧yG.q2 au al aw aq bu bl bw bq (11:Int) a_4 a a_1 a_2 a_3) (au≠[]∧au.length≤1000∧bl≠[]∧bl.length≤1000∧(∃ (a:Nat),0=(↑a:Int)∧au=au∧bl=bl∧((if bw>aw then bw else aw)=if aw<bw then bw else aw)∧[]=dY (List.take a aq) bq∧a≤aq.length∧aq.length-a<1000000)∧∀ (a:Nat),a≤aq.length→aN (decide ((↑a:Int)<(↑aq.length:Int))) ((0≤(↑a:Int)∧(↑a:Int)<(↑aq.length:Int))∧bq.length≤1000∧aN (decide (aq.getD a 0∈bq)) ((dY (List.take a aq) bq).length+1≤1000000000∧dZ ((↑a:Int)+1)∧∃ (a_1:Nat),yG.q1 aq a au al aw bu bl bw bq a_1 (dY (List.take a aq) bq++[aq.getD a 0]=dY (List.take a_1 aq) bq∧a_1≤aq.length∧aq.length-a_1<aq.length-a)) (dZ ((↑a:Int)+1)∧∃ (a_1:Nat),yG.q1 aq a au al aw bu bl bw bq a_1 (dY (List.take a aq) bq=dY (List.take a_1 aq) bq∧a_1≤aq.length∧aq.length-a_1<aq.length-a))) (aN ((↑(dY (List.take a aq) bq).length:Int)==0) (∃ (a:List Int),∃ (a_1:List Int),∃ (a_2:Int),∃ (a_3:List Int),∃ (a_4:Int),[]=a∧[]=a_1∧0=a_2∧[]=a_3∧yG.q2 au al aw aq bu bl bw bq (9:Int) a_4 a a_1 a_2 a_3) (∃ (a_1:List Int),∃ (a_2:List Int),∃ (a_3:Int),∃ (a_4:List Int),∃ (a_5:Int),au=a_1∧bl=a_2∧(if aw<bw then bw else aw)=a_3∧dY (List.take a aq) bq=a_4∧yG.q2 au al aw aq bu bl bw bq (0:Int) a_5 a_1 a_2 a_3 a_4)))))) (by kernel_rfl) ?_
  unfold yG.q2 yG.q1
  obtain⟨s1,s2,-⟩:=hp
  simp only[cL,cM,cC,eq_self,true_and,and_true,dZ,Int.ofNat_lt,gt_iff_lt]
  refine⟨by omega,XS s1 s2,fun e0=>⟨fun e1 => ?_,fun e1=>nw _ (U3 e0 (by simp only; omega)) (by decide)⟩,fun e0=>nw _ (aaa e0) e0⟩
  obtain⟨h1,h2⟩:=Gn e0
  have n1:=h1.num
  have n2:=h2.num
  have e1:(pd au al aw aq).1.length=(pd bu bl bw bq).1.length:=by simp only; omega
  have l1:=s1.2.2
  have b:=HO (la:=al) (ub:=bu) 0 h1.hl h2.hu
  refine⟨s1.2.1,s2.1,h1.hl,h2.hu,⟨by omega,by omega⟩,⟨by omega,by omega⟩,fun e2=>nw _ (U4 e0 e1 e2) (by decide),fun e2=>⟨tL (by omega),s1.1,tL (by omega),s2.2.1,⟨0,rfl,rfl,by omega,by omega⟩,fun i hi=>⟨fun Bu => ?_,fun Bu => ?_⟩⟩⟩
  · have hl:(dY (aq.take i) bq).length≤i:=bk (rS _ _) (by simp; omega)
    exact⟨⟨by omega,by omega⟩,s2.2.2,fun h8=>⟨by omega,⟨by omega,by omega⟩,i+1,by omega,by rw[take_one (by omega),Gu h8],by omega,by omega⟩,fun h8=>⟨⟨by omega,by omega⟩,i+1,by omega,by rw[take_one (by omega),KN h8],by omega,by omega⟩⟩
  · rw[show i=aq.length by omega,fo]
    exact⟨fun h8=>nw _ (Z9 e0 e1 e2 (dm (show (dY aq bq).length=0 by omega))) (by decide),fun h8=>⟨_,_,_,_,_,rfl,rfl,rfl,rfl,rfl,by rw[yH,if_pos (RF e0 e1 e2 fun e=>h8 (by rw[show dY aq bq=[] from e]; rfl))],(RF e0 e1 e2 fun e=>h8 (by rw[show dY aq bq=[] from e]; rfl)).symm⟩⟩
theorem C6 {la ub:List Int}:∀ k,k≤la.length→(eU la ub 0 k).length=k
  | 0,_=>rfl
  | k+1,h=>by rw[eU,if_pos (by omega),cO,C6 k (by omega)]; rfl
theorem Ue {la ub:List Int} {w:Int} (h:la.length=ub.length) (h3:3≤ub.length):lz la ub w 0=true↔¬ w<(stA la ub 0).2.1-(stA la ub 0).1:=by
  rw[lz,bJ,JQ,C6 _ (by omega)]; unfold stA; omega
def R3:gD:=((G4.dX 80 fun a=>dS (D63 a)).dX 96 fun a=>dS (D61 a)).dX 97 fun a=>dS (D53 a)
def EY.q1 (p0 p1:List bZ.den) (p2:Int) (p3 p4 p5:List bZ.den) (p6:Int) (p7:List bZ.den) (p8 p9:Int) (EM Nc:List Int) (Na:Int) (VX:List Int):Prop:=p8=p9∧pd EM Nc Na VX=yH (pd p0 p1 p2 p3) (pd p4 p5 p6 p7)∧p9=qn (pd p0 p1 p2 p3) (pd p4 p5 p6 p7)∧True
theorem EY:VI R3 Tryz.f47 [some fD,some bZ] (Ll 14 7 8):=by
  refine lC fun a => ?_
  unfold Ll
  split
  rotate_left
  · trivial
  rename_i au al aw aq bu bl bw bq
  intro hp
  refine Dd (A:=Sh au al aq∧Sh bu bl bq∧∀ (a:Int),a=gK [pd au al aw aq,pd bu bl bw bq]→aN (a !=0) (∃ (a_1:List Int),∃ (a_2:List Int),∃ (a_3:Int),∃ (a_4:List Int),∃ (a_5:Int),[]=a_1∧[]=a_2∧0=a_3∧[]=a_4∧EY.q1 au al aw aq bu bl bw bq a a_5 a_1 a_2 a_3 a_4) (aN ((↑au.length:Int) !=(↑bu.length:Int)) (∃ (a:List Int),∃ (a_1:List Int),∃ (a_2:Int),∃ (a_3:List Int),∃ (a_4:Int),[]=a∧[]=a_1∧0=a_2∧[]=a_3∧EY.q1 au al aw aq bu bl bw bq (12:Int) a_4 a a_1 a_2 a_3) (al.length≤1000∧bu.length≤1000∧oS al∧oS bu∧0≤aw∧aw≤2∧0≤bw∧bw≤2∧aN (!lz al bu (aw+bw) (0:Int)) (∃ (a:List Int),∃ (a_1:List Int),∃ (a_2:Int),∃ (a_3:List Int),∃ (a_4:Int),[]=a∧[]=a_1∧0=a_2∧[]=a_3∧EY.q1 au al aw aq bu bl bw bq (11:Int) a_4 a a_1 a_2 a_3) (0+au.length≤1000000000∧0+bl.length≤1000000000∧(∃ (a:Nat),0=(↑a:Int)∧au=au∧bl=bl∧((if bw>aw then bw else aw)=if aw<bw then bw else aw)∧[]=dY (List.take a aq) bq∧a≤aq.length∧aq.length-a<1000000)∧∀ (a:Nat),a≤aq.length→aN (decide ((↑a:Int)<(↑aq.length:Int))) ((0≤(↑a:Int)∧(↑a:Int)<(↑aq.length:Int))∧bq.length≤1000∧aN (decide (aq.getD a 0∈bq)) ((0≤(↑a:Int)∧(↑a:Int)<(↑aq.length:Int))∧(dY (List.take a aq) bq).length+1≤1000000000∧dZ ((↑a:Int)+1)∧∃ (a_1:Nat),(0:Int)=0∧(↑a:Int)+1=(↑a_1:Int)∧au=au∧al=al∧aw=aw∧aq=aq∧bu=bu∧bl=bl∧bw=bw∧bq=bq∧(0:Int)=0∧au=au∧bl=bl∧((if aw<bw then bw else aw)=if aw<bw then bw else aw)∧dY (List.take a aq) bq++[aq.getD a 0]=dY (List.take a_1 aq) bq∧a_1≤aq.length∧aq.length-a_1<aq.length-a) (dZ ((↑a:Int)+1)∧∃ (a_1:Nat),(0:Int)=0∧(↑a:Int)+1=(↑a_1:Int)∧au=au∧al=al∧aw=aw∧aq=aq∧bu=bu∧bl=bl∧bw=bw∧bq=bq∧(0:Int)=0∧au=au∧bl=bl∧((if aw<bw then bw else aw)=if aw<bw then bw else aw)∧dY (List.take a aq) bq=dY (List.take a_1 aq) bq∧a_1≤aq.length∧aq.length-a_1<aq.length-a)) (aN ((↑(dY (List.take a aq) bq).length:Int)==0) (∃ (a:List Int),∃ (a_1:List Int),∃ (a_2:Int),∃ (a_3:List Int),∃ (a_4:Int),[]=a∧[]=a_1∧0=a_2∧[]=a_3∧EY.q1 au al aw aq bu bl bw bq (9:Int) a_4 a a_1 a_2 a_3) (∃ (a_1:List Int),∃ (a_2:List Int),∃ (a_3:Int),∃ (a_4:List Int),∃ (a_5:Int),au=a_1∧bl=a_2∧(if aw<bw then bw else aw)=a_3∧dY (List.take a aq) bq=a_4∧EY.q1 au al aw aq bu bl bw bq (0:Int) a_5 a_1 a_2 a_3 a_4)))))) (by kernel_rfl) ?_
  unfold EY.q1
  obtain⟨s1,s2,-⟩:=hp
  simp only[cL,cM,cC,c9,eq_self,true_and,and_true,dZ,Int.ofNat_lt,gt_iff_lt]
  refine⟨s1,s2,fun e he=>⟨fun e0=>⟨fun e1 => ?_,fun e1=>nw _ (U3 (he▸e0) (by simp only; omega)) (by decide)⟩,fun e0=>by rw[he] at e0 ⊢; exact nw _ (aaa e0) e0⟩⟩
  subst he
  obtain⟨h1,h2⟩:=Gn e0
  have n1:=h1.num
  have n2:=h2.num
  have e1:(pd au al aw aq).1.length=(pd bu bl bw bq).1.length:=by simp only; omega
  have l1:=s1.2.2
  have ft:=Ue (la:=al) (ub:=bu) (w:=aw+bw) (by omega) (by omega)
  refine⟨s1.2.1,s2.1,h1.hl,h2.hu,by omega,by omega,by omega,by omega,lq.2 ⟨fun e2 => ?_,fun e2=>nw _ (U4 e0 e1 (Decidable.not_not.1 fun k=>by rw[ft.2 k] at e2; cases e2)) (by decide)⟩⟩
  have e2:=ft.1 e2
  have a1:=s1.1
  have a2:=s2.2.1
  refine⟨by omega,by omega,⟨0,rfl,rfl,by omega,by omega⟩,fun i hi=>⟨fun Bu => ?_,fun Bu => ?_⟩⟩
  · have hl:(dY (aq.take i) bq).length≤i:=bk (rS _ _) (by simp; omega)
    exact⟨⟨by omega,by omega⟩,s2.2.2,fun h8=>⟨⟨by omega,by omega⟩,by omega,⟨by omega,by omega⟩,i+1,by omega,by rw[take_one (by omega),Gu h8],by omega,by omega⟩,fun h8=>⟨⟨by omega,by omega⟩,i+1,by omega,by rw[take_one (by omega),KN h8],by omega,by omega⟩⟩
  · rw[show i=aq.length by omega,fo]
    exact⟨fun h8=>nw _ (Z9 e0 e1 e2 (dm (show (dY aq bq).length=0 by omega))) (by decide),fun h8=>⟨_,_,_,_,_,rfl,rfl,rfl,rfl,rfl,by rw[yH,if_pos (RF e0 e1 e2 fun e=>h8 (by rw[show dY aq bq=[] from e]; rfl))],(RF e0 e1 e2 fun e=>h8 (by rw[show dY aq bq=[] from e]; rfl)).symm⟩⟩
end Go.Tv
end
