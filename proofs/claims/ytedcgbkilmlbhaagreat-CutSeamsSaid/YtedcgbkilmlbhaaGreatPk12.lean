import Derived.Test.YtedcgbkilmlbhaaGreatPk11
section
namespace Go.Tv
open Go Go.Di Go.Proofs
set_option maxRecDepth 100000
def dn (l:List PD) (a b:Int):Int:=if jg l≠0 then jg l else if 0≤a∧a<l.length∧0≤b∧b<l.length then (if a=b then 4 else 0) else 3
theorem xb {l:List PD} {a b:Int} (h:dn l a b=0):l.length≤4∧(∀ p∈l,wq p)∧0≤a∧a<l.length∧0≤b∧b<l.length∧a≠b:=by
  unfold dn at h
  split at h
  · rename_i h0; exact absurd h h0
  · rename_i h0
    have h0:=Decidable.not_not.1 h0
    obtain⟨h1,h2⟩:=AX h0
    split at h
    · rename_i h3
      split at h
      · cases h
      · rename_i h4; exact⟨h1,h2,h3.1,h3.2.1,h3.2.2.1,h3.2.2.2,h4⟩
    · cases h
def Q0:gP:=T6.cI 50 fun a=>dS (aag a)
def GZ:List TV→Dn
  | [.sl (.pair (.sl (.int .i64)) (.pair (.sl (.int .i64)) (.pair (.int .i64) (.pair (.sl (.int .i64)) .unit)))) l .no,.val (.int .i64 a),.val (.int .i64 b)]=>some ([l.length≤1000,∀ p∈l,c9 p],.ex Int fun e => .res (bk e) [] [e=dn l a b],[])
  | _=>none
theorem abP:VI Q0 Tryz.f59 [some bO] GZ:=by
  refine eX fun a => ?_
  unfold GZ
  split
  rotate_left
  · trivial
  rename_i l x y
  intro hp
  refine qx (A:=l.length≤1000∧(∀ (p:(aO).den),p∈l→c9 p)∧aG (jg l !=0) (∃ (a:Int),jg l=a∧a=dn l x y∧True) (aG (decide (x<0)) (∃ (a:Int),3=a∧a=dn l x y∧True) (aG (decide (y<0)) (∃ (a:Int),3=a∧a=dn l x y∧True) (aG (decide (x≥(↑l.length:Int))) (∃ (a:Int),3=a∧a=dn l x y∧True) (aG (decide (y≥(↑l.length:Int))) (∃ (a:Int),3=a∧a=dn l x y∧True) (aG (x==y) (∃ (a:Int),4=a∧a=dn l x y∧True) (∃ (a:Int),0=a∧a=dn l x y∧True))))))) (by kernel_rfl) ?_
  obtain⟨h1,h2,-⟩:=hp
  have e3:jg l=0→¬(0≤x∧x<l.length∧0≤y∧y<l.length)→3=dn l x y:=fun h0 h=>by rw[dn,if_neg (fun k=>k h0),if_neg h]
  simp only[cC,bL,dF]
  exact⟨h1,h2,fun h0=>⟨fun h=>⟨_,rfl,e3 h0 (by omega),trivial⟩,fun a1=>⟨fun h=>⟨_,rfl,e3 h0 (by omega),trivial⟩,fun a2=>⟨fun h=>⟨_,rfl,e3 h0 (by omega),trivial⟩,fun a3=>⟨fun h=>⟨_,rfl,e3 h0 (by omega),trivial⟩,fun a4=>⟨fun h=>⟨_,rfl,by rw[dn,if_neg (fun k=>k h0),if_pos (by omega),if_pos h],trivial⟩,fun h=>⟨_,rfl,by rw[dn,if_neg (fun k=>k h0),if_pos (by omega),if_neg h],trivial⟩⟩⟩⟩⟩⟩,fun h=>⟨_,rfl,by rw[dn,if_pos h],trivial⟩⟩
def Q1:gP:=G3.cI 51 fun a=>dS (D51 a)
theorem abO:VI Q1 Tryz.f62 [some bO] GZ:=by
  refine eX fun a => ?_
  unfold GZ
  split
  rotate_left
  · trivial
  rename_i l x y
  intro hp
  refine qx (A:=l.length≤1000∧(∀ (p:(aO).den),p∈l→c9 p)∧aG (jg l !=0) (∃ (a:Int),jg l=a∧a=dn l x y∧True) (cE ((↑l.length:Int)-1)∧aG (!decide (0≤x∧x≤(↑l.length:Int)-1)) (∃ (a:Int),3=a∧a=dn l x y∧True) (cE ((↑l.length:Int)-1)∧aG (!decide (0≤y∧y≤(↑l.length:Int)-1)) (∃ (a:Int),3=a∧a=dn l x y∧True) (aG (x==y) (∃ (a:Int),4=a∧a=dn l x y∧True) (∃ (a:Int),0=a∧a=dn l x y∧True))))) (by kernel_rfl) ?_
  obtain⟨h1,h2,-⟩:=hp
  have e3:jg l=0→¬(0≤x∧x<l.length∧0≤y∧y<l.length)→3=dn l x y:=fun h0 h=>by rw[dn,if_neg (fun k=>k h0),if_neg h]
  simp only[cC,bL,dR,dF,cE]
  exact⟨h1,h2,fun h0=>⟨⟨by omega,by omega⟩,fun a1=>⟨⟨by omega,by omega⟩,fun a2=>⟨fun h=>⟨_,rfl,by rw[dn,if_neg (fun k=>k h0),if_pos (by omega),if_pos h],trivial⟩,fun h=>⟨_,rfl,by rw[dn,if_neg (fun k=>k h0),if_pos (by omega),if_neg h],trivial⟩⟩,fun h=>⟨_,rfl,e3 h0 (by omega),trivial⟩⟩,fun h=>⟨_,rfl,e3 h0 (by omega),trivial⟩⟩,fun h=>⟨_,rfl,by rw[dn,if_pos h],trivial⟩⟩
abbrev uY:Type:=Int×Int×Int×Unit
def bK (p q:PD):List uY:=aA p.1 p.2.1 p.2.2.2.1 q.1 q.2.1 q.2.2.2.1 (p.2.2.1+q.2.2.1)
def pS (l:List PD) (a b:Int):List uY:=if dn l a b=0 then bK (l.getD a.toNat dP) (l.getD b.toNat dP) else []
theorem yD {p q:PD} (h1:wq p) (h2:wq q):(bK p q).length≤272:=BU h1 h2
theorem N0 {l:List PD} {a b:Int}:(pS l a b).length≤272:=by
  unfold pS
  split
  · rename_i h
    obtain⟨-,h2,h3,h4,h5,h6,-⟩:=xb h
    exact yD (cV (by omega) h2) (cV (by omega) h2)
  · exact gh _
def Q2:gP:=((Q0.cI 59 fun a=>dS (GZ a)).cI 61 fun a=>dS (D50 a)).cI 60 S60
def NF:List TV→Dn
  | [.sl (.pair (.sl (.int .i64)) (.pair (.sl (.int .i64)) (.pair (.int .i64) (.pair (.sl (.int .i64)) .unit)))) l .no,.val (.int .i64 a),.val (.int .i64 b)]=>some ([l.length≤1000,∀ p∈l,c9 p],.ex (List gX.den) fun x => .ex Int fun e => .res (.gd [.sl gX x .no,bk e]) [] [x=pS l a b,e=dn l a b],[])
  | _=>none
def mR.q1 (p0:bM.den) (p1:Prop):Prop:=List.reverse p0=List.reverse p0∧p1
def mR.q2 (p0:bM.den):Prop:=p0=p0
def mR.q3 (p0:List (aO).den) (p1:Int) (p2:Prop):Prop:=mR.q2 (p0.getD p1.toNat ([],[],0,[],())).fst∧mR.q2 (p0.getD p1.toNat ([],[],0,[],())).snd.fst∧mR.q1 (p0.getD p1.toNat ([],[],0,[],())).snd.fst (mR.q1 (p0.getD p1.toNat ([],[],0,[],())).fst (mR.q1 (p0.getD p1.toNat ([],[],0,[],())).fst (mR.q1 (p0.getD p1.toNat ([],[],0,[],())).snd.fst (mR.q2 (p0.getD p1.toNat ([],[],0,[],())).snd.fst∧mR.q2 (p0.getD p1.toNat ([],[],0,[],())).fst∧p2))))
def mR.q4 (p0:List (aO).den) (p1:Int):Prop:=Ok (p0.getD p1.toNat ([],[],0,[],())).fst (p0.getD p1.toNat ([],[],0,[],())).snd.fst (p0.getD p1.toNat ([],[],0,[],())).snd.snd.fst (p0.getD p1.toNat ([],[],0,[],())).snd.snd.snd.fst
def mR.q5 (p0:List (aO).den) (p1:Int) (p2:Prop):Prop:=(0≤p1∧p1<(↑p0.length:Int))∧List.length (p0.getD p1.toNat ([],[],0,[],())).fst≤1000∧List.length (p0.getD p1.toNat ([],[],0,[],())).snd.fst≤1000∧p2
theorem mR:VI Q2 Tryz.f17 [some (.sl gX),some bO] NF:=by
  refine eX fun a => ?_
  unfold NF
  split
  rotate_left
  · trivial
  rename_i l x y
  intro hp
  refine qx (A:=l.length≤1000∧(∀ (p:(aO).den),p∈l→c9 p)∧∀ (a:Int),a=dn l x y→aG (a !=0) (∃ (a_1:List gX.den),∃ (a_2:Int),[]=a_1∧a=a_2∧a_1=pS l x y∧a_2=dn l x y∧True) (mR.q5 l x (mR.q5 l y (mR.q4 l x∧mR.q4 l y∧mR.q3 l x (mR.q3 l y (∃ (a:List gX.den),∃ (a_1:Int),aA (l.getD x.toNat ([],[],0,[],())).fst (l.getD x.toNat ([],[],0,[],())).snd.fst (l.getD x.toNat ([],[],0,[],())).snd.snd.snd.fst (l.getD y.toNat ([],[],0,[],())).fst (l.getD y.toNat ([],[],0,[],())).snd.fst (l.getD y.toNat ([],[],0,[],())).snd.snd.snd.fst ((l.getD x.toNat ([],[],0,[],())).snd.snd.fst+(l.getD y.toNat ([],[],0,[],())).snd.snd.fst)=a∧0=a_1∧a=pS l x y∧a_1=dn l x y∧True)))))) (by kernel_rfl) ?_
  unfold mR.q5 mR.q4 mR.q3 mR.q2 mR.q1
  obtain⟨h1,h2,-⟩:=hp
  simp only[cC,eq_self,true_and,and_true]
  refine⟨h1,h2,fun e he=>⟨fun e0 => ?_,fun e1=>⟨[],e,rfl,rfl,by rw[pS,if_neg (he▸e1)],he⟩⟩⟩
  subst he
  obtain⟨k1,k2,k3,k4,k5,k6,k7⟩:=xb e0
  have o1:wq (l.getD x.toNat dP):=cV (by omega) k2
  have o2:wq (l.getD y.toNat dP):=cV (by omega) k2
  have s1:=BC o1
  have s2:=BC o2
  exact⟨⟨k3,k4⟩,s1.1,s1.2.1,⟨k5,k6⟩,s2.1,s2.2.1,o1,o2,_,_,rfl,rfl,by rw[pS,if_pos e0]; rfl,e0.symm⟩
section
variable (p q:PD)
def GJ (x y:Nat):List Int:=pJ (bS (p.2.2.2.1.getD x 0) p.1 p.2.1) (bR (q.2.2.2.1.getD y 0) q.1 q.2.1) (p.2.2.1+q.2.2.1) (q.1.length+p.1.length+1)
def ET (x y k:Nat):List uY:=((GJ p q x y).take k).map fun s=>(p.2.2.2.1.getD x 0,q.2.2.2.1.getD y 0,s,())
def A3 (x y:Nat):List uY:=(q.2.2.2.1.take y).flatMap fun v=>(pJ (bS (p.2.2.2.1.getD x 0) p.1 p.2.1) (bR v q.1 q.2.1) (p.2.2.1+q.2.2.1) (q.1.length+p.1.length+1)).map fun s=>(p.2.2.2.1.getD x 0,v,s,())
def xW (x:Nat):List uY:=(p.2.2.2.1.take x).flatMap fun u=>q.2.2.2.1.flatMap fun v=>(pJ (bS u p.1 p.2.1) (bR v q.1 q.2.1) (p.2.2.1+q.2.2.1) (q.1.length+p.1.length+1)).map fun s=>(u,v,s,())
end
section
variable {p q:PD} {x y k:Nat}
theorem SR (h:k<(GJ p q x y).length):ET p q x y k++[(p.2.2.2.1.getD x 0,q.2.2.2.1.getD y 0,(GJ p q x y).getD k 0,())]=ET p q x y (k+1):=by
  rw[ET,ET,iX 0 h,gm]; rfl
theorem SS (h:y<q.2.2.2.1.length):A3 p q x y++ET p q x y (GJ p q x y).length=A3 p q x (y+1):=by
  rw[A3,A3,iX 0 h,List.flatMap_append,ET,fo]; simp[GJ]
theorem SU (h:x<p.2.2.2.1.length):xW p q x++A3 p q x q.2.2.2.1.length=xW p q (x+1):=by
  rw[xW,xW,iX 0 h,List.flatMap_append,A3,fo]; simp
theorem SV:xW p q p.2.2.2.1.length=bK p q:=by
  rw[xW,fo]; rfl
theorem Ve {la ub:List Int} {w:Int} {n:Nat}:(pJ la ub w n).length≤n:=by
  rw[pJ]
  refine aS (qR _ _) ?_
  simp
theorem aa1 (h1:wq p) (h2:wq q):(xW p q x++A3 p q x y++ET p q x y k).length≤1000:=by
  have l1:=q_len h1
  have l2:=q_len h2
  have n1:=h1.n8
  have n2:=h2.n8
  have e1:(xW p q x).length≤4*68:=by
    refine aS (qL (c:=68) fun i _ => ?_) (eU _ (aS (List.length_take_le' ..) l1))
    refine aS (qL (c:=17) fun j _ => ?_) (eU 17 l2)
    rw[eT]
    exact aS Ve (by omega)
  have e2:(A3 p q x y).length≤4*17:=by
    refine aS (qL (c:=17) fun j _ => ?_) (eU 17 (aS (List.length_take_le' ..) l2))
    rw[eT]
    exact aS Ve (by omega)
  have e3:(ET p q x y k).length≤17:=by
    rw[ET,eT]
    refine aS (List.length_take_le' ..) ?_
    exact aS Ve (by omega)
  rw[b9,b9]
  omega
end
def Q3:gP:=((T0.cI 81 fun a=>dS (D16 a)).cI 109 fun a=>dS (D66 a))
def VK:List TV→Dn
  | [.agg [.sl (.int .i64) ua .no,.sl (.int .i64) la .no,.val (.int .i64 wa),.sl (.int .i64) qa .no],.agg [.sl (.int .i64) ub .no,.sl (.int .i64) lb .no,.val (.int .i64 wb),.sl (.int .i64) qb .no]]=>some ([Ok ua la wa qa,Ok ub lb wb qb],.res (.sl gX (bK (pd ua la wa qa) (pd ub lb wb qb)) .no) [] [],
    [(4,.ex Nat fun x => .st { sl:=[(5,.sl gX (xW (pd ua la wa qa) (pd ub lb wb qb) x) (.oE 2)),(6,bk x)],own:=[(79,3)],dm:=[x≤qa.length],m:=qa.length-x }),
     (9,.dep fun te _=>uP te 6 fun x => .ex Nat fun y => .st { sl:=[(5,.sl gX (xW (pd ua la wa qa) (pd ub lb wb qb) x++A3 (pd ua la wa qa) (pd ub lb wb qb) x y) (.oE 2)),(7,bk y)],dm:=[y≤qb.length],m:=qb.length-y }),
     (15,.dep fun te _=>uP te 6 fun x=>uP te 7 fun y => .ex Nat fun k => .st { sl:=[(5,.sl gX (xW (pd ua la wa qa) (pd ub lb wb qb) x++A3 (pd ua la wa qa) (pd ub lb wb qb) x y++ET (pd ua la wa qa) (pd ub lb wb qb) x y k) (.oE 2)),(9,bk k)],dm:=[k≤(GJ (pd ua la wa qa) (pd ub lb wb qb) x y).length],m:=(GJ (pd ua la wa qa) (pd ub lb wb qb) x y).length-k })])
  | _=>none
def vo.q1 (p0 p1:List bO.den) (p2:Int) (p3:List bO.den) (p4:Nat) (p5:Prop):Prop:=p0=p0∧p1=p1∧p2=p2∧p3=p3∧p3=p3∧(↑p4:Int)=(↑p4:Int)∧p3=p3∧p4=p4∧0=0∧p3.getD p4 0=p3.getD p4 0∧bR (p3.getD p4 0) p0 p1=bR (p3.getD p4 0) p0 p1∧bS (p3.getD p4 0) p0 p1=bS (p3.getD p4 0) p0 p1∧p2=p2∧fT (p3.getD p4 0) p3 4=fT (p3.getD p4 0) p3 4∧p5
def vo.q2 (p0:List bO.den) (p1:Nat) (p2 p3 p4:List bO.den) (p5:Nat) (p6 p7:List bO.den) (p8 p9:Int) (C0:Prop):Prop:=pJ (bS (p0.getD p1 0) p2 p3) (bR (p4.getD p5 0) p6 p7) (p8+p9) ((bR (p4.getD p5 0) p6 p7).length+(bS (p0.getD p1 0) p2 p3).length+1)=pJ (bS (p0.getD p1 0) p2 p3) (bR (p4.getD p5 0) p6 p7) (p8+p9) ((bR (p4.getD p5 0) p6 p7).length+(bS (p0.getD p1 0) p2 p3).length+1)∧C0
def vo.q3 (p0 p1:List bO.den) (p2:Int) (p3 p4 p5:List bO.den) (p6:Int) (p7:List bO.den) (p8 p9 C0:Nat):Prop:=p0=p0∧p1=p1∧p2=p2∧p3=p3∧p4=p4∧p5=p5∧p6=p6∧p7=p7∧p8≤p9∧p9-p8<p9-C0
theorem vo:VI Q3 Tryz.f63 [some (.sl gX)] VK:=by
  refine eX fun a => ?_
  unfold VK
  split
  rotate_left
  · trivial
  rename_i ua la wa qa ub lb wb qb
  intro hp
  refine qx (A:=(∃ (a:Nat),[]=xW (pd ua la wa qa) (pd ub lb wb qb) a∧0=(↑a:Int)∧a≤qa.length∧qa.length-a<1000000)∧∀ (a:Nat),a≤qa.length→aG (decide ((↑a:Int)<(↑qa.length:Int))) ((∃ (a_1:Nat),xW (pd ua la wa qa) (pd ub lb wb qb) a=xW (pd ua la wa qa) (pd ub lb wb qb) a++A3 (pd ua la wa qa) (pd ub lb wb qb) a a_1∧0=(↑a_1:Int)∧a_1≤qb.length∧qb.length-a_1<1000000)∧∀ (a_1:Nat),a_1≤qb.length→aG (decide ((↑a_1:Int)<(↑qb.length:Int))) ((0≤(↑a:Int)∧(↑a:Int)<(↑qa.length:Int))∧ua.length≤1000∧la.length≤1000∧qa.length≤1000∧0≤qa.getD a 0∧qa.getD a 0≤3∧(0≤(↑a_1:Int)∧(↑a_1:Int)<(↑qb.length:Int))∧ub.length≤1000∧lb.length≤1000∧qb.length≤1000∧0≤qb.getD a_1 0∧qb.getD a_1 0≤3∧Ok (bR (qa.getD a 0) ua la) (bS (qa.getD a 0) ua la) wa (fT (qa.getD a 0) qa 4)∧Ok (bR (qb.getD a_1 0) ub lb) (bS (qb.getD a_1 0) ub lb) wb (fT (qb.getD a_1 0) qb 4)∧(∃ (a_2:Nat),xW (pd ua la wa qa) (pd ub lb wb qb) a++A3 (pd ua la wa qa) (pd ub lb wb qb) a a_1=xW (pd ua la wa qa) (pd ub lb wb qb) a++A3 (pd ua la wa qa) (pd ub lb wb qb) a a_1++ET (pd ua la wa qa) (pd ub lb wb qb) a a_1 a_2∧0=(↑a_2:Int)∧a_2≤(GJ (pd ua la wa qa) (pd ub lb wb qb) a a_1).length∧(GJ (pd ua la wa qa) (pd ub lb wb qb) a a_1).length-a_2<1000000)∧∀ (a_2:Nat),a_2≤(GJ (pd ua la wa qa) (pd ub lb wb qb) a a_1).length→aG (decide ((↑a_2:Int)<(↑(pJ (bS (qa.getD a 0) ua la) (bR (qb.getD a_1 0) ub lb) (wa+wb) ((bR (qb.getD a_1 0) ub lb).length+(bS (qa.getD a 0) ua la).length+1)).length:Int))) ((0≤(↑a:Int)∧(↑a:Int)<(↑qa.length:Int))∧(0≤(↑a_1:Int)∧(↑a_1:Int)<(↑qb.length:Int))∧(0≤(↑a_2:Int)∧(↑a_2:Int)<(↑(pJ (bS (qa.getD a 0) ua la) (bR (qb.getD a_1 0) ub lb) (wa+wb) ((bR (qb.getD a_1 0) ub lb).length+(bS (qa.getD a 0) ua la).length+1)).length:Int))∧(xW (pd ua la wa qa) (pd ub lb wb qb) a++A3 (pd ua la wa qa) (pd ub lb wb qb) a a_1++ET (pd ua la wa qa) (pd ub lb wb qb) a a_1 a_2).length+1≤1000000000∧cE ((↑a_2:Int)+1)∧∃ (a_3:Nat),lM gX.den∧xW (pd ua la wa qa) (pd ub lb wb qb) a++A3 (pd ua la wa qa) (pd ub lb wb qb) a a_1++ET (pd ua la wa qa) (pd ub lb wb qb) a a_1 a_2++[(qa.getD a 0,qb.getD a_1 0,(pJ (bS (qa.getD a 0) ua la) (bR (qb.getD a_1 0) ub lb) (wa+wb) ((bR (qb.getD a_1 0) ub lb).length+(bS (qa.getD a 0) ua la).length+1)).getD a_2 0,())]=xW (pd ua la wa qa) (pd ub lb wb qb) a++A3 (pd ua la wa qa) (pd ub lb wb qb) a a_1++ET (pd ua la wa qa) (pd ub lb wb qb) a a_1 a_3∧(↑a:Int)=(↑a:Int)∧(↑a_1:Int)=(↑a_1:Int)∧vo.q2 qa a ua la qb a_1 ub lb wa wb ((↑a_2:Int)+1=(↑a_3:Int)∧(↑a:Int)=(↑a:Int)∧qa=qa∧(↑qa.length:Int)=(↑qa.length:Int)∧true=true∧(↑a_1:Int)=(↑a_1:Int)∧qb=qb∧(↑qb.length:Int)=(↑qb.length:Int)∧true=true∧vo.q1 ua la wa qa a (vo.q1 ub lb wb qb a_1 (vo.q2 qa a ua la qb a_1 ub lb wa wb (vo.q3 ua la wa qa ub lb wb qb a_3 (GJ (pd ua la wa qa) (pd ub lb wb qb) a a_1).length a_2))))) (cE ((↑a_1:Int)+1)∧∃ (a_3:Nat),lM gX.den∧xW (pd ua la wa qa) (pd ub lb wb qb) a++A3 (pd ua la wa qa) (pd ub lb wb qb) a a_1++ET (pd ua la wa qa) (pd ub lb wb qb) a a_1 a_2=xW (pd ua la wa qa) (pd ub lb wb qb) a++A3 (pd ua la wa qa) (pd ub lb wb qb) a a_3∧(↑a:Int)=(↑a:Int)∧(↑a_1:Int)+1=(↑a_3:Int)∧(↑a:Int)=(↑a:Int)∧qa=qa∧(↑qa.length:Int)=(↑qa.length:Int)∧true=true∧vo.q3 ua la wa qa ub lb wb qb a_3 qb.length a_1)) (cE ((↑a:Int)+1)∧∃ (a_2:Nat),lM gX.den∧xW (pd ua la wa qa) (pd ub lb wb qb) a++A3 (pd ua la wa qa) (pd ub lb wb qb) a a_1=xW (pd ua la wa qa) (pd ub lb wb qb) a_2∧(↑a:Int)+1=(↑a_2:Int)∧vo.q3 ua la wa qa ub lb wb qb a_2 qa.length a)) (xW (pd ua la wa qa) (pd ub lb wb qb) a=bK (pd ua la wa qa) (pd ub lb wb qb)∧True)) (by kernel_rfl) ?_
  unfold vo.q3 vo.q2 vo.q1
  obtain⟨o1,o2,-⟩:=hp
  have esh:∀ x y:Nat,pJ (bS (qa.getD x 0) ua la) (bR (qb.getD y 0) ub lb) (wa+wb) ((bR (qb.getD y 0) ub lb).length+(bS (qa.getD x 0) ua la).length+1)=GJ (pd ua la wa qa) (pd ub lb wb qb) x y:=fun x y=>by
    rw[(F3 o1.len).2,(F3 o2.len).1]; rfl
  have pl:=fun x y k=>aa1 (p:=pd ua la wa qa) (q:=pd ub lb wb qb) (x:=x) (y:=y) (k:=k) o1 o2
  have s1:=DO o1
  have s2:=DO o2
  have l1:=q_len o1
  have l2:=q_len o2
  have p1:∀ {x:Nat},x<qa.length→xW (pd ua la wa qa) (pd ub lb wb qb) x++A3 (pd ua la wa qa) (pd ub lb wb qb) x qb.length=xW (pd ua la wa qa) (pd ub lb wb qb) (x+1):=fun h=>SU (p:=pd ua la wa qa) (q:=pd ub lb wb qb) h
  have p2:∀ {x y:Nat},y<qb.length→A3 (pd ua la wa qa) (pd ub lb wb qb) x y++ET (pd ua la wa qa) (pd ub lb wb qb) x y (GJ (pd ua la wa qa) (pd ub lb wb qb) x y).length=A3 (pd ua la wa qa) (pd ub lb wb qb) x (y+1):=fun h=>SS (p:=pd ua la wa qa) (q:=pd ub lb wb qb) h
  have p3:∀ {x y k:Nat},k<(GJ (pd ua la wa qa) (pd ub lb wb qb) x y).length→ET (pd ua la wa qa) (pd ub lb wb qb) x y k++[(qa.getD x 0,qb.getD y 0,(GJ (pd ua la wa qa) (pd ub lb wb qb) x y).getD k 0,())]=ET (pd ua la wa qa) (pd ub lb wb qb) x y (k+1):=fun h=>SR (p:=pd ua la wa qa) (q:=pd ub lb wb qb) h
  have p4:xW (pd ua la wa qa) (pd ub lb wb qb) qa.length=bK (pd ua la wa qa) (pd ub lb wb qb):=SV
  have sl:∀ x y,(GJ (pd ua la wa qa) (pd ub lb wb qb) x y).length≤17:=fun x y=>aS Ve (by have:=o1.n8; have:=o2.n8; simp only[pd]; omega)
  have z1:xW (pd ua la wa qa) (pd ub lb wb qb) 0=[]:=rfl
  have z2:∀ x,A3 (pd ua la wa qa) (pd ub lb wb qb) x 0=[]:=fun _=>rfl
  have z3:∀ x y,ET (pd ua la wa qa) (pd ub lb wb qb) x y 0=[]:=fun _ _=>rfl
  simp only[bL,eq_self,true_and,and_true,fE,esh,cE]
  generalize pd ua la wa qa=P at *
  generalize pd ub lb wb qb=Q at *
  have mo:∀ x,x<qa.length→0≤qa.getD x 0∧qa.getD x 0≤3:=fun x h=>o1.O6 _ (lE h)
  have mo2:∀ x,x<qb.length→0≤qb.getD x 0∧qb.getD x 0≤3:=fun x h=>o2.O6 _ (lE h)
  refine⟨⟨0,z1.symm,rfl,by omega,by omega⟩,fun x hx=>⟨fun jS=>⟨⟨0,by rw[z2,ff],rfl,by omega,by omega⟩,fun y hy=>⟨fun Ul => ?_,fun Ul=>⟨⟨by omega,by omega⟩,x+1,?_,by omega,by omega,by omega⟩⟩⟩,fun jS => ?_⟩⟩
  · have m1:=mo x (by omega)
    have m2:=mo2 y (by omega)
    have:=sl x y
    refine⟨⟨by omega,by omega⟩,s1.1,s1.2.1,s1.2.2,m1.1,m1.2,⟨by omega,by omega⟩,s2.1,s2.2.1,s2.2.2,m2.1,m2.2,Rr o1 m1,Rr o2 m2,⟨0,by rw[z3,ff],rfl,by omega,by omega⟩,fun k hk=>⟨fun pK=>⟨⟨by omega,by omega⟩,⟨by omega,by omega⟩,⟨by omega,by omega⟩,by have:=pl x y k; omega,⟨by omega,by omega⟩,k+1,by rw[gD,p3 (by omega)],by omega,by omega,by omega⟩,fun pK=>⟨⟨by omega,by omega⟩,y+1,?_,by omega,by omega,by omega⟩⟩⟩
    rw[gD,show k=(GJ P Q x y).length by omega,p2 (by omega)]
  · rw[show y=qb.length by omega,p1 (by omega)]
  · rw[show x=qa.length by omega,p4]
end Go.Tv
end
section
namespace Go.Tv
open Go Go.Di Go.Proofs
set_option maxRecDepth 100000
def GA (na nb:Int) (g:Int) (x:eM):eM:=if g=1 then o1 na nb x else if g=2 then o2 na nb x else if g=3 then o3 x else x
abbrev ad1 (x:eM):TV := .agg [kC x.1,bk x.2.1.1,bk x.2.1.2.1,bk x.2.1.2.2.1]
def aan:List TV→Dn
  | [.agg [.val (.bool t),.val (.int .i64 u),.val (.int .i64 l),.val (.int .i64 s)],.val (.int .i64 g),.val (.int .i64 na),.val (.int .i64 nb)]=>some ([-10000≤s,s≤10000,0≤na,na≤1000,0≤nb,nb≤1000],.ex eM fun y => .res (ad1 y) [] [y=GA na nb g (t,(u,l,s,()),())],[])
  | _=>none
def Np.q1 (p0 p1 p2:Int) (p3:Bool) (p4 p5 p6 p7:Int) (p8:Bool) (p9 C0:Int):Prop:=cE p7∧∃ (a:eM),p8=a.fst∧IntKind.i64.wrap (↑(BitVec.ofInt 64 p9 ^^^ BitVec.ofInt 64 p0).toNat:Int)=a.snd.fst.fst∧IntKind.i64.wrap (↑(BitVec.ofInt 64 C0 ^^^ BitVec.ofInt 64 p0).toNat:Int)=a.snd.fst.snd.fst∧p7=a.snd.fst.snd.snd.fst∧a=GA p1 p2 p0 (p3,(p4,p5,p6,()),())∧True
theorem Np:VI T0 Tryz.f111 [some bD] aan:=by
  refine eX fun a => ?_
  unfold aan
  split
  rotate_left
  · trivial
  rename_i t u l s g na nb
  intro hp
  refine qx (A:=aG (g==1) (cE (nb-na)∧Np.q1 g na nb t u l s (nb-na+s) (!t) l u) (aG (g==2) (cE (na-nb)∧Np.q1 g na nb t u l s (na-nb-s) t u l) (aG (g==3) (Np.q1 g na nb t u l s (-s) (!t) l u) (∃ (a:eM),t=a.fst∧u=a.snd.fst.fst∧l=a.snd.fst.snd.fst∧s=a.snd.fst.snd.snd.fst∧a=GA na nb g (t,(u,l,s,()),())∧True)))) (by kernel_rfl) ?_
  unfold Np.q1
  obtain⟨h1,h2,h3,h4,h5,h6,-⟩:=hp
  simp only[dF,cE,eq_self,true_and,and_true]
  refine⟨fun e=>⟨⟨by omega,by omega⟩,⟨by omega,by omega⟩,(!t,(fH l 1,fH u 1,nb-na+s,()),()),rfl,by rw[e]; rfl,by rw[e]; rfl,rfl,?_⟩,fun e=>⟨fun e2=>⟨⟨by omega,by omega⟩,⟨by omega,by omega⟩,(t,(fH u 2,fH l 2,na-nb-s,()),()),rfl,by rw[e2]; rfl,by rw[e2]; rfl,rfl,?_⟩,fun e2=>⟨fun e3=>⟨⟨by omega,by omega⟩,(!t,(fH l 3,fH u 3,-s,()),()),rfl,by rw[e3]; rfl,by rw[e3]; rfl,rfl,?_⟩,fun e3=>⟨(t,(u,l,s,()),()),rfl,rfl,rfl,rfl,?_⟩⟩⟩⟩
  · subst e; rw[GA,if_pos rfl,o1]; simp only[ay,true_and,and_true]; omega
  · subst e2; rw[GA,if_neg (by decide),if_pos rfl,o2]
  · subst e3; rw[GA,if_neg (by decide),if_neg (by decide),if_pos rfl,o3]
  · rw[GA,if_neg e,if_neg e2,if_neg e3]
def Jn (na nb:Int) (pre:List eM) (w:eM):Prop:=∀ x∈pre,∀ g:Nat,g<4→GA na nb g w≠x
def lJ (na nb:Int) (x:eM):Int:=if x.1=true then na else nb
def dW:eM:=(false,(0,0,0,()),())
open Classical in
noncomputable def sk (na nb:Int) (R:List eM):Nat→Int
  | 0=>0
  | i+1=>sk na nb R i+(if Jn (lJ na nb (R.getD i dW)) (lJ nb na (R.getD i dW)) (R.take i) (R.getD i dW) then 1 else 0)
def tW (s:uY):eM:=(true,s,())
def fW (s:uY):eM:=(false,s,())
def rN (p q:PD):List eM:=(bK p q).map tW++(bK q p).map fW
noncomputable def Bl (p q:PD):Int:=sk p.1.length q.1.length (rN p q) (rN p q).length
def Lx (te:List TV) (k:List eM→LA):LA :=
  match te.getD 5 .unk with
  | .sl (.pair .bool (.pair (.pair (.int .i64) (.pair (.int .i64) (.pair (.int .i64) .unit))) .unit)) l _=>k l
  | _ => .un 0
def acI (te:List TV) (i:Nat) (k:Bool→LA):LA :=
  match te.getD i .unk with
  | .val (.bool b)=>k b
  | _ => .un 0
theorem WM {x y:eM}:(!(x.1==y.1&&(x.2.1.1==y.2.1.1&&(x.2.1.2.1==y.2.1.2.1&&(x.2.1.2.2.1==y.2.1.2.2.1&&true))&&true)))=true↔x≠y:=by
  obtain⟨t,⟨u,l,s,c⟩,c'⟩:=x
  obtain⟨t2,⟨u2,l2,s2,c2⟩,c3⟩:=y
  rw[Bool.not_eq_true',← Bool.not_eq_true]
  refine not_congr ?_
  simp
theorem Xa {na nb:Int} {R:List eM} {k:Nat} {w:eM} (h:k<R.length):Jn na nb (R.take (k+1)) w↔(Jn na nb (R.take k) w∧∀ g:Nat,g<4→GA na nb g w≠R.getD k dW):=by
  rw[iX dW h]
  simp only[Jn,ja,bN]
  exact⟨fun h=>⟨fun x hx=>h x (.inl hx),h _ (.inr rfl)⟩,fun h x hx=>hx.elim (h.1 x) fun e=>e▸h.2⟩
theorem Kg (na nb:Int) (R:List eM):∀ i,0≤sk na nb R i∧sk na nb R i≤i
  | 0=>by simp[sk]
  | i+1=>by
    have:=Kg na nb R i
    rw[sk]
    split<;>omega
def Q6:gP:=(T0.cI 63 fun a=>dS (VK a)).cI 111 fun a=>dS (aan a)
def VJ:List TV→Dn
  | [.agg [.sl (.int .i64) ua .no,.sl (.int .i64) la .no,.val (.int .i64 wa),.sl (.int .i64) qa .no],.agg [.sl (.int .i64) ub .no,.sl (.int .i64) lb .no,.val (.int .i64 wb),.sl (.int .i64) qb .no]]=>some ([Ok ua la wa qa,Ok ub lb wb qb],.ex Int fun n => .res (bk n) [] [n=Bl (pd ua la wa qa) (pd ub lb wb qb)],
    [(5,.dep fun te tS => .ex Nat fun i => .st { sl:=[(5,.sl bD (((bK (pd ua la wa qa) (pd ub lb wb qb)).take i).map tW) (.oE 2)),(8,bk i)],own:=[(150,4)],dm:=[i≤(bK (pd ua la wa qa) (pd ub lb wb qb)).length],m:=(bK (pd ua la wa qa) (pd ub lb wb qb)).length-i }),
     (11,.dep fun te tS => .ex Nat fun i => .st { sl:=[(5,.sl bD ((bK (pd ua la wa qa) (pd ub lb wb qb)).map tW++((bK (pd ub lb wb qb) (pd ua la wa qa)).take i).map fW) (.oE 2)),(9,bk i)],dm:=[i≤(bK (pd ub lb wb qb) (pd ua la wa qa)).length],m:=(bK (pd ub lb wb qb) (pd ua la wa qa)).length-i }),
     (15,.ex (List bD.den) fun R => .st { sl:=[(5,.sl bD R .no),(10,bk 0)],dm:=[R=rN (pd ua la wa qa) (pd ub lb wb qb)] }),
     (18,.dep fun te _=>Lx te fun R => .ex Nat fun i => .ex Int fun n => .st { sl:=[(10,bk n),(11,bk i)],dm:=[i≤R.length,n=sk ua.length ub.length R i],m:=R.length-i }),
     (23,.dep fun te _=>Lx te fun R=>uP te 11 fun i => .st { sl:=[(12,bk (lJ ua.length ub.length (R.getD i dW))),(13,bk (lJ ub.length ua.length (R.getD i dW)))] }),
     (28,.dep fun te _=>Lx te fun R=>uP te 11 fun i => .ex Nat fun k => .ex Bool fun b => .st { sl:=[(14,kC b),(15,bk k)],dm:=[k≤i,b=true↔Jn (lJ ua.length ub.length (R.getD i dW)) (lJ ub.length ua.length (R.getD i dW)) (R.take k) (R.getD i dW)],m:=i-k }),
     (33,.dep fun te _=>Lx te fun R=>uP te 11 fun i=>uP te 15 fun k=>acI te 14 fun b0 => .ex Nat fun j => .ex Bool fun b => .st { sl:=[(14,kC b),(16,bk j)],dm:=[j≤4,b=true↔(b0=true∧∀ g:Nat,g<j→GA (lJ ua.length ub.length (R.getD i dW)) (lJ ub.length ua.length (R.getD i dW)) g (R.getD i dW)≠R.getD k dW)],m:=4-j })])
  | _=>none
def qA.q1 (p0:Nat) (p1:List bD.den) (p2:Int) (p3:Nat) (p4 p5:List bO.den) (p6:Nat) (p7:List bO.den) (p8:Int) (p9 C0:List bO.den) (XB:Int) (XA:List bO.den) (p13 p14:Bool):Prop:=cE ((↑p0:Int)+1)∧∃ (a:Nat),∃ (a_1:Bool),(0:Int)=0∧p1=p1∧p2=p2∧(↑p3:Int)=(↑p3:Int)∧lJ (↑p4.length:Int) (↑p5.length:Int) (p1.getD p3 dW)=lJ (↑p4.length:Int) (↑p5.length:Int) (p1.getD p3 dW)∧lJ (↑p5.length:Int) (↑p4.length:Int) (p1.getD p3 dW)=lJ (↑p5.length:Int) (↑p4.length:Int) (p1.getD p3 dW)∧p14=a_1∧(↑p6:Int)=(↑p6:Int)∧(↑p0:Int)+1=(↑a:Int)∧(↑p3:Int)=(↑p3:Int)∧p1=p1∧(↑p1.length:Int)=(↑p1.length:Int)∧true=true∧p4=p4∧(↑p4.length:Int)=(↑p4.length:Int)∧p5=p5∧(↑p5.length:Int)=(↑p5.length:Int)∧(↑p6:Int)=(↑p6:Int)∧(↑p3:Int)=(↑p3:Int)∧true=true∧p4=p4∧p7=p7∧p8=p8∧p9=p9∧p5=p5∧C0=C0∧XB=XB∧XA=XA∧a≤4∧(a_1=true↔p13=true∧∀ (g:Nat),g<a→GA (lJ (↑p4.length:Int) (↑p5.length:Int) (p1.getD (↑p3:Int).toNat dW)) (lJ (↑p5.length:Int) (↑p4.length:Int) (p1.getD (↑p3:Int).toNat dW)) (↑g:Int) (p1.getD (↑p3:Int).toNat dW)≠p1.getD (↑p6:Int).toNat dW)∧4-a<4-p0
def qA.q2 (p0:Nat) (p1:List bD.den) (p2 p3 p4:List bO.den) (p5:Int) (p6 p7:List bO.den) (p8:Int) (p9:List bO.den) (C0:Prop):Prop:=(↑p0:Int)=(↑p0:Int)∧p1=p1∧(↑p1.length:Int)=(↑p1.length:Int)∧true=true∧p2=p2∧(↑p2.length:Int)=(↑p2.length:Int)∧p3=p3∧(↑p3.length:Int)=(↑p3.length:Int)∧p2=p2∧p4=p4∧p5=p5∧p6=p6∧p3=p3∧p7=p7∧p8=p8∧p9=p9∧C0
def qA.q3 (p0:Nat) (p1:List bD.den) (p2 p3:List bO.den) (p4:Int) (p5 p6 p7:List bO.den) (p8:Int) (p9:List bO.den) (C0:Int):Prop:=cE ((↑p0:Int)+1)∧∃ (a:Nat),∃ (a_1:Int),(0:Int)=0∧p1=p1∧C0=a_1∧(↑p0:Int)+1=(↑a:Int)∧p2=p2∧p3=p3∧p4=p4∧p5=p5∧p6=p6∧p7=p7∧p8=p8∧p9=p9∧a≤p1.length∧a_1=sk (↑p2.length:Int) (↑p6.length:Int) p1 a∧p1.length-a<p1.length-p0
def qA.q4 (p0 p1:List bO.den) (p2:Int) (p3 p4 p5:List bO.den) (p6:Int) (p7:List bO.den) (p8 p9:Nat) (C0 XB:List bO.den) (XA:Int) (p13 p14 p15:List bO.den) (p16:Int) (p17:List bO.den):Prop:=bK (pd p0 p1 p2 p3) (pd p4 p5 p6 p7)=bK (pd p0 p1 p2 p3) (pd p4 p5 p6 p7)∧(↑p8:Int)+1=(↑p9:Int)∧p4=p4∧p5=p5∧p6=p6∧p7=p7∧p0=p0∧p1=p1∧p2=p2∧p3=p3∧p9≤(bK (pd C0 XB XA p13) (pd p14 p15 p16 p17)).length∧(bK (pd C0 XB XA p13) (pd p14 p15 p16 p17)).length-p9<(bK (pd C0 XB XA p13) (pd p14 p15 p16 p17)).length-p8
theorem qA:VI Q6 Tryz.f65 [some bO] VJ:=by
  refine eX fun a => ?_
  unfold VJ
  split
  rotate_left
  · trivial
  rename_i ua la wa qa ub lb wb qb
  intro hp
  refine qx (A:=Ok ua la wa qa∧Ok ub lb wb qb∧Ok ub lb wb qb∧Ok ua la wa qa∧(∃ (a:Nat),[]=List.map tW (List.take a (bK (pd ua la wa qa) (pd ub lb wb qb)))∧0=(↑a:Int)∧a≤(bK (pd ua la wa qa) (pd ub lb wb qb)).length∧(bK (pd ua la wa qa) (pd ub lb wb qb)).length-a<1000000)∧∀ (a:Nat),a≤(bK (pd ua la wa qa) (pd ub lb wb qb)).length→aG (decide ((↑a:Int)<(↑(bK (pd ua la wa qa) (pd ub lb wb qb)).length:Int))) ((0≤(↑a:Int)∧(↑a:Int)<(↑(bK (pd ua la wa qa) (pd ub lb wb qb)).length:Int))∧(List.map tW (List.take a (bK (pd ua la wa qa) (pd ub lb wb qb)))).length+1≤1000000000∧cE ((↑a:Int)+1)∧∃ (a_1:Nat),(0:Int)=0∧List.map tW (List.take a (bK (pd ua la wa qa) (pd ub lb wb qb)))++[(true,(((bK (pd ua la wa qa) (pd ub lb wb qb)).getD a (0,0,0,())).fst,((bK (pd ua la wa qa) (pd ub lb wb qb)).getD a (0,0,0,())).snd.fst,((bK (pd ua la wa qa) (pd ub lb wb qb)).getD a (0,0,0,())).snd.snd.fst,()),())]=List.map tW (List.take a_1 (bK (pd ua la wa qa) (pd ub lb wb qb)))∧bK (pd ua la wa qa) (pd ub lb wb qb)=bK (pd ua la wa qa) (pd ub lb wb qb)∧qA.q4 ub lb wb qb ua la wa qa a a_1 ua la wa qa ub lb wb qb) ((∃ (a_1:Nat),List.map tW (List.take a (bK (pd ua la wa qa) (pd ub lb wb qb)))=List.map tW (bK (pd ua la wa qa) (pd ub lb wb qb))++List.map fW (List.take a_1 (bK (pd ub lb wb qb) (pd ua la wa qa)))∧0=(↑a_1:Int)∧a_1≤(bK (pd ub lb wb qb) (pd ua la wa qa)).length∧(bK (pd ub lb wb qb) (pd ua la wa qa)).length-a_1<1000000)∧∀ (a:Nat),a≤(bK (pd ub lb wb qb) (pd ua la wa qa)).length→aG (decide ((↑a:Int)<(↑(bK (pd ub lb wb qb) (pd ua la wa qa)).length:Int))) ((0≤(↑a:Int)∧(↑a:Int)<(↑(bK (pd ub lb wb qb) (pd ua la wa qa)).length:Int))∧(List.map tW (bK (pd ua la wa qa) (pd ub lb wb qb))++List.map fW (List.take a (bK (pd ub lb wb qb) (pd ua la wa qa)))).length+1≤1000000000∧cE ((↑a:Int)+1)∧∃ (a_1:Nat),(0:Int)=0∧List.map tW (bK (pd ua la wa qa) (pd ub lb wb qb))++List.map fW (List.take a (bK (pd ub lb wb qb) (pd ua la wa qa)))++[(false,(((bK (pd ub lb wb qb) (pd ua la wa qa)).getD a (0,0,0,())).fst,((bK (pd ub lb wb qb) (pd ua la wa qa)).getD a (0,0,0,())).snd.fst,((bK (pd ub lb wb qb) (pd ua la wa qa)).getD a (0,0,0,())).snd.snd.fst,()),())]=List.map tW (bK (pd ua la wa qa) (pd ub lb wb qb))++List.map fW (List.take a_1 (bK (pd ub lb wb qb) (pd ua la wa qa)))∧qA.q4 ub lb wb qb ua la wa qa a a_1 ub lb wb qb ua la wa qa) ((∃ (a_1:List bD.den),(0:Int)=0∧List.map tW (bK (pd ua la wa qa) (pd ub lb wb qb))++List.map fW (List.take a (bK (pd ub lb wb qb) (pd ua la wa qa)))=a_1∧(0:Int)=0∧ua=ua∧la=la∧wa=wa∧qa=qa∧ub=ub∧lb=lb∧wb=wb∧qb=qb∧a_1=rN (pd ua la wa qa) (pd ub lb wb qb)∧True)∧∀ (a:List bD.den),a=rN (pd ua la wa qa) (pd ub lb wb qb)→(∃ (a_1:Nat),∃ (a_2:Int),0=a_2∧0=(↑a_1:Int)∧a_1≤a.length∧a_2=sk (↑ua.length:Int) (↑ub.length:Int) a a_1∧a.length-a_1<1000000)∧∀ (a_1:Nat) (a_2:Int),a_1≤a.length→a_2=sk (↑ua.length:Int) (↑ub.length:Int) a a_1→aG (decide ((↑a_1:Int)<(↑a.length:Int))) (((0≤(↑a_1:Int)∧(↑a_1:Int)<(↑a.length:Int))∧aG (!(a.getD a_1 (false,(0,0,0,()),())).fst) ((0:Int)=0∧a=a∧a_2=a_2∧(↑a_1:Int)=(↑a_1:Int)∧(↑ub.length:Int)=lJ (↑ua.length:Int) (↑ub.length:Int) (a.getD a_1 dW)∧(↑ua.length:Int)=lJ (↑ub.length:Int) (↑ua.length:Int) (a.getD a_1 dW)∧qA.q2 a_1 a ua ub la wa qa lb wb qb True) ((0:Int)=0∧a=a∧a_2=a_2∧(↑a_1:Int)=(↑a_1:Int)∧(↑ua.length:Int)=lJ (↑ua.length:Int) (↑ub.length:Int) (a.getD a_1 dW)∧(↑ub.length:Int)=lJ (↑ub.length:Int) (↑ua.length:Int) (a.getD a_1 dW)∧qA.q2 a_1 a ua ub la wa qa lb wb qb True))∧(∃ (a_3:Nat),∃ (a_4:Bool),true=a_4∧0=(↑a_3:Int)∧a_3≤a_1∧(a_4=true↔Jn (lJ (↑ua.length:Int) (↑ub.length:Int) (a.getD a_1 dW)) (lJ (↑ub.length:Int) (↑ua.length:Int) (a.getD a_1 dW)) (List.take a_3 a) (a.getD a_1 dW))∧a_1-a_3<1000000)∧∀ (a_3:Nat) (a_4:Bool),a_3≤a_1→(a_4=true↔Jn (lJ (↑ua.length:Int) (↑ub.length:Int) (a.getD a_1 dW)) (lJ (↑ub.length:Int) (↑ua.length:Int) (a.getD a_1 dW)) (List.take a_3 a) (a.getD a_1 dW))→aG (decide ((↑a_3:Int)<(↑a_1:Int))) ((∃ (a_5:Nat),∃ (a_6:Bool),a_4=a_6∧0=(↑a_5:Int)∧a_5≤4∧(a_6=true↔a_4=true∧∀ (g:Nat),g<a_5→GA (lJ (↑ua.length:Int) (↑ub.length:Int) (a.getD (↑a_1:Int).toNat dW)) (lJ (↑ub.length:Int) (↑ua.length:Int) (a.getD (↑a_1:Int).toNat dW)) (↑g:Int) (a.getD (↑a_1:Int).toNat dW)≠a.getD (↑a_3:Int).toNat dW)∧4-a_5<1000000)∧∀ (a_5:Nat) (a_6:Bool),a_5≤4→(a_6=true↔a_4=true∧∀ (g:Nat),g<a_5→GA (lJ (↑ua.length:Int) (↑ub.length:Int) (a.getD (↑a_1:Int).toNat dW)) (lJ (↑ub.length:Int) (↑ua.length:Int) (a.getD (↑a_1:Int).toNat dW)) (↑g:Int) (a.getD (↑a_1:Int).toNat dW)≠a.getD (↑a_3:Int).toNat dW)→aG (decide ((↑a_5:Int)≤3)) (aG a_6 ((0≤(↑a_1:Int)∧(↑a_1:Int)<(↑a.length:Int))∧(-10000:Int)≤(a.getD a_1 (false,(0,0,0,()),())).snd.fst.snd.snd.fst∧(a.getD a_1 (false,(0,0,0,()),())).snd.fst.snd.snd.fst≤10000∧0≤lJ (↑ua.length:Int) (↑ub.length:Int) (a.getD a_1 dW)∧lJ (↑ua.length:Int) (↑ub.length:Int) (a.getD a_1 dW)≤1000∧0≤lJ (↑ub.length:Int) (↑ua.length:Int) (a.getD a_1 dW)∧lJ (↑ub.length:Int) (↑ua.length:Int) (a.getD a_1 dW)≤1000∧∀ (a_7:eM),a_7=GA (lJ (↑ua.length:Int) (↑ub.length:Int) (a.getD a_1 dW)) (lJ (↑ub.length:Int) (↑ua.length:Int) (a.getD a_1 dW)) (↑a_5:Int) ((a.getD a_1 (false,(0,0,0,()),())).fst,((a.getD a_1 (false,(0,0,0,()),())).snd.fst.fst,(a.getD a_1 (false,(0,0,0,()),())).snd.fst.snd.fst,(a.getD a_1 (false,(0,0,0,()),())).snd.fst.snd.snd.fst,()),())→(0≤(↑a_3:Int)∧(↑a_3:Int)<(↑a.length:Int))∧qA.q1 a_5 a a_2 a_1 ua ub a_3 la wa qa lb wb qb a_4 !(a_7.fst==(a.getD a_3 (false,(0,0,0,()),())).fst&&(a_7.snd.fst.fst==(a.getD a_3 (false,(0,0,0,()),())).snd.fst.fst&&(a_7.snd.fst.snd.fst==(a.getD a_3 (false,(0,0,0,()),())).snd.fst.snd.fst&&(a_7.snd.fst.snd.snd.fst==(a.getD a_3 (false,(0,0,0,()),())).snd.fst.snd.snd.fst&&true))&&true))) (qA.q1 a_5 a a_2 a_1 ua ub a_3 la wa qa lb wb qb a_4 false)) (cE ((↑a_3:Int)+1)∧∃ (a_7:Nat),∃ (a_8:Bool),(0:Int)=0∧a=a∧a_2=a_2∧(↑a_1:Int)=(↑a_1:Int)∧lJ (↑ua.length:Int) (↑ub.length:Int) (a.getD a_1 dW)=lJ (↑ua.length:Int) (↑ub.length:Int) (a.getD a_1 dW)∧lJ (↑ub.length:Int) (↑ua.length:Int) (a.getD a_1 dW)=lJ (↑ub.length:Int) (↑ua.length:Int) (a.getD a_1 dW)∧a_6=a_8∧(↑a_3:Int)+1=(↑a_7:Int)∧qA.q2 a_1 a ua ub la wa qa lb wb qb (a_7≤a_1∧(a_8=true↔Jn (lJ (↑ua.length:Int) (↑ub.length:Int) (a.getD a_1 dW)) (lJ (↑ub.length:Int) (↑ua.length:Int) (a.getD a_1 dW)) (List.take a_7 a) (a.getD a_1 dW))∧a_1-a_7<a_1-a_3))) (aG a_4 (cE (a_2+1)∧qA.q3 a_1 a ua la wa qa ub lb wb qb (a_2+1)) (qA.q3 a_1 a ua la wa qa ub lb wb qb a_2))) (∃ (a:Int),a_2=a∧a=Bl (pd ua la wa qa) (pd ub lb wb qb)∧True)))) (by kernel_rfl) ?_
  unfold qA.q4 qA.q3 qA.q2 qA.q1
  obtain⟨h1,h2,-⟩:=hp
  have l1:(bK (pd ua la wa qa) (pd ub lb wb qb)).length≤272:=yD h1 h2
  have l2:(bK (pd ub lb wb qb) (pd ua la wa qa)).length≤272:=yD h2 h1
  have n1:=h1.n8
  have n2:=h2.n8
  have sh:∀ x∈rN (pd ua la wa qa) (pd ub lb wb qb),-10000≤x.2.1.2.2.1∧x.2.1.2.2.1≤10000:=fun x hx=>by
    rcases ja.1 hx with hx | hx
    · obtain⟨s,hs,rfl⟩:=cR.1 hx
      exact FR h1 h2 hs
    · obtain⟨s,hs,rfl⟩:=cR.1 hx
      exact FR h2 h1 hs
  have lr:(rN (pd ua la wa qa) (pd ub lb wb qb)).length≤544:=by
    rw[rN,b9,eT,eT]; omega
  have hrf:∀ j,¬ j<(bK (pd ub lb wb qb) (pd ua la wa qa)).length→(bK (pd ua la wa qa) (pd ub lb wb qb)).map tW++((bK (pd ub lb wb qb) (pd ua la wa qa)).take j).map fW=rN (pd ua la wa qa) (pd ub lb wb qb):=fun j hj=>by
    rw[iE (by omega)]; rfl
  have rP:∀ i,i≤(rN (pd ua la wa qa) (pd ub lb wb qb)).length→¬ i<(rN (pd ua la wa qa) (pd ub lb wb qb)).length→sk ua.length ub.length (rN (pd ua la wa qa) (pd ub lb wb qb)) i=Bl (pd ua la wa qa) (pd ub lb wb qb):=fun i h h'=>by
    rw[show i=(rN (pd ua la wa qa) (pd ub lb wb qb)).length by omega]; rfl
  simp only[bL,dR,eq_self,true_and,and_true,cE,Int.toNat_natCast]
  refine⟨h1,h2,h2,h1,⟨0,rfl,rfl,by omega,by omega⟩,fun i hi=>⟨fun C4=>⟨⟨by omega,by omega⟩,by rw[eT,iD]; omega,⟨by omega,by omega⟩,i+1,?_,by omega,by omega,by omega⟩,fun C4=>⟨⟨0,by rw[iE (by omega)]; simp,rfl,by omega,by omega⟩,fun j hj=>⟨fun wB=>⟨⟨by omega,by omega⟩,by rw[b9,eT,eT,iD]; omega,⟨by omega,by omega⟩,j+1,?_,by omega,by omega,by omega⟩,fun wB=>⟨⟨_,rfl,hrf j (by omega)⟩,fun R hR => ?_⟩⟩⟩⟩⟩
  · rw[iX (0,0,0,()) (by omega),gm]; rfl
  · rw[iX (0,0,0,()) (by omega),gm,← gD]; rfl
  rw[← hR] at sh lr rP
  clear hR hrf
  refine⟨⟨0,0,rfl,rfl,by omega,rfl,by omega⟩,fun i n hi hn=>⟨fun C4=>⟨⟨⟨by omega,by omega⟩,gY.2 ⟨fun e => ?_,fun e => ?_⟩⟩,⟨0,true,rfl,rfl,by omega,by simp[Jn],by omega⟩,fun k b hk hb=>⟨fun pK=>⟨⟨0,b,rfl,rfl,by omega,by simp,by omega⟩,fun g c hg hc=>⟨fun lQ=>gY.2 ⟨fun ec => ?_,fun ec => ?_⟩,fun lQ => ?_⟩⟩,fun pK => ?_⟩⟩,fun C4=>⟨_,rfl,?_⟩⟩⟩
  · have e:(R.getD i dW).1=true:=e
    rw[lJ,lJ,if_pos e,if_pos e]; exact⟨rfl,rfl⟩
  · rw[lJ,lJ,if_neg (by rw[show (R.getD i dW).1=false from e]; decide),if_neg (by rw[show (R.getD i dW).1=false from e]; decide)]; exact⟨rfl,rfl⟩
  · have hm:R.getD i dW∈R:=by
      rw[aN,bH (by omega)]; exact mB _
    have hs:=sh _ hm
    have w1:0≤lJ (ua.length:Int) ub.length (R.getD i dW)∧lJ (ua.length:Int) ub.length (R.getD i dW)≤1000:=by rw[lJ]; split<;>omega
    have w2:0≤lJ (ub.length:Int) ua.length (R.getD i dW)∧lJ (ub.length:Int) ua.length (R.getD i dW)≤1000:=by rw[lJ]; split<;>omega
    refine⟨⟨by omega,by omega⟩,hs.1,hs.2,w1.1,w1.2,w2.1,w2.2,fun y hy=>⟨⟨by omega,by omega⟩,⟨by omega,by omega⟩,g+1,_,rfl,by omega,by omega,?_,by omega⟩⟩
    have hy:y=GA (lJ ua.length ub.length (R.getD i dW)) (lJ ub.length ua.length (R.getD i dW)) g (R.getD i dW):=hy
    refine(WM (x:=y) (y:=R.getD k dW)).trans ?_
    rw[hy]
    have hc:=hc.1 ec
    refine⟨fun h=>⟨hc.1,fun g' lQ => ?_⟩,fun h=>h.2 g (by omega)⟩
    rcases Nat.lt_succ_iff_lt_or_eq.1 lQ with h' | rfl
    · exact hc.2 g' h'
    · exact h
  · refine⟨⟨by omega,by omega⟩,g+1,_,rfl,by omega,by omega,?_,by omega⟩
    refine⟨fun h=>(by cases h),fun h => ?_⟩
    have:=hc.2 ⟨h.1,fun g' lQ=>h.2 g' (by omega)⟩
    rw[ec] at this
    exact this
  · refine⟨⟨by omega,by omega⟩,k+1,_,rfl,by omega,by omega,?_,by omega⟩
    obtain rfl:g=4:=by omega
    rw[hc,hb,Xa (by omega)]
  · obtain rfl:k=i:=by omega
    refine gY.2 ⟨fun e=>⟨⟨by have:=Kg ua.length ub.length R k; omega,by have:=Kg ua.length ub.length R k; omega⟩,⟨by omega,by omega⟩,k+1,_,rfl,by omega,by omega,?_,by omega⟩,fun e=>⟨⟨by omega,by omega⟩,k+1,_,rfl,by omega,by omega,?_,by omega⟩⟩
    · rw[sk,hn]
      congr 1
      exact(if_pos (hb.1 e)).symm
    · rw[sk,hn]
      have:¬ Jn (lJ ua.length ub.length (R.getD k dW)) (lJ ub.length ua.length (R.getD k dW)) (R.take k) (R.getD k dW):=fun h=>by
        have:=hb.2 h
        rw[e] at this
        cases this
      rw[if_neg this,Int.add_zero]
  · rw[hn]; exact rP i hi (by omega)
end Go.Tv
end
section
namespace Go.Tv
open Go Go.Di Go.Proofs
theorem Tj {x w:eM} {S:List eM}:fO bD x (eW bD w S)=true↔x=w∨x∈S:=by
 rw[B7,eW]
 cases h:fO bD w S
 ·simp[or_comm]
 ·have:=B7.1 h
  simp only[cond_true]
  exact⟨.inr,fun h=>h.elim (fun e=>e▸this) id⟩
theorem TH {x y:eM}:Ls x y=true↔x=y:=by
 obtain⟨t,⟨u,l,s,c⟩,c'⟩:=x
 obtain⟨t2,⟨u2,l2,s2,c2⟩,c3⟩:=y
 simp only[Ls,aI,ek,and_true,ay]
theorem Sd {na nb:Int} {S pre:List eM} {n:Int} {w:eM} (hS:∀ x,x∈S↔x∈pre) (hw:w ∉ pre) [Decidable (Jn na nb pre w)] :
  (∀ x,x∈(jh na nb (S,n) w).1↔x∈pre++[w])∧(jh na nb (S,n) w).2=n+(if Jn na nb pre w then 1 else 0):=by
 have hm:∀ x,fO bD x (eW bD w S)=true↔x=w∨x∈pre:=fun x=>by rw[Tj,hS]
 refine⟨fun x => ?_,?_⟩
 ·rw[jh]
  show x∈eW bD w S↔_
  rw[← B7,hm]; simp[or_comm]
 have h1:fO bD (o1 na nb w) (eW bD w S)=true↔o1 na nb w∈pre:=by
  rw[hm]
  exact⟨fun h=>h.elim (fun e=>by have:=congrArg Prod.fst e; simp[o1] at this) id,.inr⟩
 have h3:fO bD (o3 w) (eW bD w S)=true↔o3 w∈pre:=by
  rw[hm]
  exact⟨fun h=>h.elim (fun e=>by have:=congrArg Prod.fst e; simp[o3] at this) id,.inr⟩
 have h2:(!Ls (o2 na nb w) w&&fO bD (o2 na nb w) (eW bD w S))=true↔o2 na nb w∈pre:=by
  rw[aI,hm,Bool.not_eq_true',← Bool.not_eq_true,TH]
  exact⟨fun h=>h.2.elim (fun e=>absurd e h.1) id,fun h=>⟨fun e=>hw (e▸h),.inr h⟩⟩
 have hf:Jn na nb pre w↔¬ (o1 na nb w∈pre∨o2 na nb w∈pre∨o3 w∈pre):=by
  constructor
  ·rintro h (k | k | k)
   ·exact h _ k 1 (by decide) rfl
   ·exact h _ k 2 (by decide) rfl
   ·exact h _ k 3 (by decide) rfl
  ·intro h x hx g hg e
   subst e
   match g,hg with
   | 0,_=>exact hw hx
   | 1,_=>exact h (.inl hx)
   | 2,_=>exact h (.inr (.inl hx))
   | 3,_=>exact h (.inr (.inr hx))
 unfold jh
 simp only
 cases c1:fO bD (o1 na nb w) (eW bD w S) with
 | true=>rw[if_neg fun h=>hf.1 h (.inl (h1.1 c1))]; simp
 | false =>
  cases c2:(!Ls (o2 na nb w) w&&fO bD (o2 na nb w) (eW bD w S)) with
  | true=>rw[if_neg fun h=>hf.1 h (.inr (.inl (h2.1 c2)))]; simp
  | false =>
   cases c3:fO bD (o3 w) (eW bD w S) with
   | true=>rw[if_neg fun h=>hf.1 h (.inr (.inr (h3.1 c3)))]; simp
   | false =>
    rw[if_pos (hf.2 fun h => ?_)]
    ·rfl
    ·rcases h with h | h | h
     ·rw[h1.2 h] at c1; cases c1
     ·rw[h2.2 h] at c2; cases c2
     ·rw[h3.2 h] at c3; cases c3
def EZ (x:eM):eM:=(!x.1,x.2)
theorem YK (x:eM):EZ (EZ x)=x:=by simp[EZ]
theorem Re (na nb g:Int) (x:eM):GA na nb g (EZ x)=EZ (GA na nb g x):=by
 unfold GA
 split
 ·simp[o1,EZ]
 ·split
  ·simp[o2,EZ]
  ·split
   ·simp[o3,EZ]
   ·rfl
theorem YI {na nb:Int} {pre:List eM} {w:eM}:Jn na nb (pre.map EZ) (EZ w)↔Jn na nb pre w:=by
 constructor
 ·intro h x hx g hg e
  exact h (EZ x) (cR.2 ⟨x,hx,rfl⟩) g hg (by rw[Re,e])
 ·intro h y hy g hg e
  obtain⟨x,hx,rfl⟩:=cR.1 hy
  rw[Re] at e
  exact h x hx g hg (by have:=congrArg EZ e; rwa [YK,YK] at this)
open Classical in
theorem Cm {na nb a b:Int} {t:Bool} (ht:(t=false→a=na∧b=nb)∧(t=true→a=nb∧b=na)):∀ (l:List uY) (pre:List eM) (R:List eM) (q:List eM×Int),(∀ x,x∈q.1↔x∈pre)→(∃ post,R=pre.map EZ++(l.map fun s=>EZ (t,s,()))++post)→(pre++l.map fun s=>(t,s,())).Nodup→q.2=sk na nb R pre.length →
  (∀ x,x∈(cn a b t q l).1↔x∈pre++l.map fun s=>(t,s,()))∧(cn a b t q l).2=sk na nb R (pre.length+l.length)
 | [],pre,R,q,h1,_,_,h4=>⟨fun x=>by rw[fK,ff]; exact h1 x,h4⟩
 | s::l,pre,R,q,h1,⟨post,hR⟩,h3,h4=>by
  have hw:((t,s,()):eM) ∉ pre:=fun h=>by
   rw[List.nodup_append] at h3
   exact h3.2.2 _ h _ (by simp) rfl
  have hg:R.getD pre.length dW=EZ (t,s,()):=by
   rw[hR,gD,aN,gF (by simp)]
   simp
  have htk:R.take pre.length=pre.map EZ:=by
   rw[hR,gD,List.take_append_of_le_length (by simp),iE (by simp)]
  have st:=Sd (na:=a) (nb:=b) (S:=q.1) (n:=q.2) h1 hw
  have e1:(EZ (t,s,())).1 = !t:=rfl
  have ew:lJ na nb (EZ (t,s,()))=a∧lJ nb na (EZ (t,s,()))=b:=by
   cases t with
   | false=>have:=ht.1 rfl; rw[lJ,lJ,e1,this.1,this.2]; exact⟨rfl,rfl⟩
   | true=>have:=ht.2 rfl; rw[lJ,lJ,e1,this.1,this.2]; exact⟨rfl,rfl⟩
  have hc:(jh a b q (t,s,())).2=sk na nb R (pre++[(t,s,())]).length:=by
   rw[b9,List.length_singleton,sk,hg,htk,ew.1,ew.2,← h4,st.2]
   congr 1
   by_cases hf:Jn a b pre (t,s,())
   ·rw[if_pos hf,if_pos (YI.2 hf)]
   ·rw[if_neg hf,if_neg fun h=>hf (YI.1 h)]
  have ih:=Cm ht l (pre++[(t,s,())]) R (jh a b q (t,s,())) st.1 ⟨post,by rw[hR]; simp⟩ (by simpa using h3) hc
  have e:cn a b t q (s::l)=cn a b t (jh a b q (t,s,())) l:=rfl
  rw[e]
  refine⟨fun x=>by rw[ih.1]; simp,?_⟩
  rw[ih.2,b9,List.length_singleton,List.length_cons]
  congr 1
  omega
theorem oB {α β:Type} {f:α→β} (hf:∀ a b,f a=f b→a=b) {l:List α} (h:l.Nodup):(l.map f).Nodup:=by
 rw[tO,List.pairwise_map]
 exact(tO.1 h).imp fun h e=>h (hf _ _ e)
theorem zP {ua la qa ub lb qb:List Int} {w wa wb:Int} (ha:Ok ua la wa qa) (hb:Ok ub lb wb qb):(aA ua la qa ub lb qb w).Nodup:=by
 have na:=tO.1 (Eo ha.U3)
 have nb:=tO.1 (Eo hb.U3)
 have nsh:∀ {a b:List Int} {v:Int} {k:Nat},(pJ a b v k).Nodup:=fun {a b v k}=>by
  rw[pJ]
  exact List.Nodup.sublist List.filter_sublist (oB (fun a b e=>by omega) List.nodup_range)
 rw[tO,aA,List.pairwise_flatMap]
 refine⟨fun x _ => ?_,na.imp fun hne p hp q hq e=>hne ?_⟩
 ·rw[List.pairwise_flatMap]
  refine⟨fun y _ => ?_,nb.imp fun hne p hp q hq e=>hne ?_⟩
  ·refine tO.1 (oB (fun a b e => ?_) nsh)
   simp only[ay,true_and,and_true] at e; exact e
  ·simp only[cR] at hp hq
   obtain⟨_,_,rfl⟩:=hp
   obtain⟨_,_,rfl⟩:=hq
   simp only[ay] at e
   exact e.2.1
 ·simp only[List.mem_flatMap,cR] at hp hq
  obtain⟨_,_,_,_,rfl⟩:=hp
  obtain⟨_,_,_,_,rfl⟩:=hq
  simp only[ay] at e
  exact e.1
def Bm (p q:PD):Int:=G8 p.1 p.2.1 p.2.2.2.1 q.1 q.2.1 q.2.2.2.1 p.2.2.1 q.2.2.1
theorem D9 {p q:PD} (h1:wq p) (h2:wq q):Bl p q=Bm p q:=by
 have n1:(bK p q).Nodup:=zP h1 h2
 have n2:(bK q p).Nodup:=zP h2 h1
 have inj:∀ (t:Bool) (a b:uY),((t,a,()):eM)=(t,b,())→a=b:=fun t a b e=>by
  simp only[ay,true_and,and_true] at e; exact e
 have a1:=Cm (na:=p.1.length) (nb:=q.1.length) (a:=p.1.length) (b:=q.1.length) (t:=false) ⟨fun _=>⟨rfl,rfl⟩,fun h=>by cases h⟩ (bK p q) [] (rN p q) ([],0) (fun x=>Iff.rfl) ⟨(bK q p).map fW,by rw[rN]; rfl⟩ (by simpa using oB (inj false) n1) rfl
 have a2:=Cm (na:=p.1.length) (nb:=q.1.length) (a:=q.1.length) (b:=p.1.length) (t:=true) ⟨fun h=>(by cases h),fun _=>⟨rfl,rfl⟩⟩ (bK q p) ((bK p q).map fun s=>(false,s,())) (rN p q) (cn p.1.length q.1.length false ([],0) (bK p q)) (fun x=>by rw[a1.1]; simp) ⟨[],by rw[rN,ff,List.map_map]; rfl⟩ (by
  rw[List.nodup_append]
  refine⟨oB (inj false) n1,oB (inj true) n2,fun x hx y hy e => ?_⟩
  subst e
  obtain⟨s,-,rfl⟩:=cR.1 hx
  obtain⟨s',-,h⟩:=cR.1 hy
  cases h) (by rw[a1.2]; simp)
 have:(cn q.1.length p.1.length true (cn p.1.length q.1.length false ([],0) (bK p q)) (bK q p)).2=Bm p q:=rfl
 rw[← this,a2.2,Bl]
 congr 1
 simp[rN]
end Go.Tv
end
section
namespace Go.Tv
open Go Go.Di Go.Proofs
set_option maxRecDepth 100000
theorem F6 {α:Type} {P:α→Prop} {l:List α} {i:Nat} {d:α} (h:i<l.length) (hl:∀ p∈l,P p):P (l.getD i d):=by
 rw[aN,bH h]; exact hl _ (mB _)
def aai:List TV→Dn
 | [.sl (.sl (.int .i64)) l .no,.sl (.sl (.int .i64)) m .no]=>some ([l.length≤1000,m.length≤1000,∀ x∈l,x.length≤1000,∀ x∈m,x.length≤1000],.ex Bool fun b => .res (kC b) [] [b=true↔l=m],
  [(4,.ex Nat fun i => .ex Bool fun b => .st { sl:=[(5,kC b),(6,bk i)],dm:=[i≤l.length,b=true↔(l.length=m.length∧l.take i=m.take i)],m:=l.length-i })])
 | _=>none
def Q8:gP:=T0.cI 49 fun a=>dS (D25 a)
theorem ad6:VI Q8 Tryz.f24 [some .bool] aai:=by
 refine eX fun a => ?_
 unfold aai
 split
 rotate_left
 ·trivial
 rename_i l m
 intro hp
 refine qx (A:=(∃ (a:Nat),∃ (a_1:Bool),((↑l.length:Int)==(↑m.length:Int))=a_1∧0=(↑a:Int)∧a≤l.length∧(a_1=true↔l.length=m.length∧List.take a l=List.take a m)∧l.length-a<1000000)∧∀ (a:Nat) (a_1:Bool),a≤l.length→(a_1=true↔l.length=m.length∧List.take a l=List.take a m)→aG a_1 (aG (decide ((↑a:Int)<(↑l.length:Int))) ((0≤(↑a:Int)∧(↑a:Int)<(↑l.length:Int))∧(0≤(↑a:Int)∧(↑a:Int)<(↑m.length:Int))∧List.length (l.getD a [])≤1000∧List.length (m.getD a [])≤1000∧cE ((↑a:Int)+1)∧∃ (a_2:Nat),∃ (a_3:Bool),l=l∧m=m∧false=false∧decide (l.getD a []=m.getD a [])=a_3∧(↑a:Int)+1=(↑a_2:Int)∧a_2≤l.length∧(a_3=true↔l.length=m.length∧List.take a_2 l=List.take a_2 m)∧l.length-a_2<l.length-a) (∃ (a:Bool),a_1=a∧(a=true↔l=m)∧True)) (∃ (a:Bool),a_1=a∧(a=true↔l=m)∧True)) (by kernel_rfl) ?_
 obtain⟨h1,h2,s1,s2,-⟩:=hp
 refine⟨⟨0,_,rfl,rfl,by omega,by simp; omega,by omega⟩,fun i b h3 h4=>gY.2 ⟨fun h5=>bL.2 ⟨fun h6 => ?_,fun h6=>⟨_,rfl,?_,trivial⟩⟩,fun h5=>⟨_,rfl,?_,trivial⟩⟩⟩
 ·have h5:=h4.1 h5
  refine⟨⟨by omega,by omega⟩,⟨by omega,by omega⟩,F6 (by omega) s1,F6 (by omega) s2,⟨by omega,by omega⟩,i+1,_,rfl,rfl,rfl,rfl,by omega,by omega,?_,by omega⟩
  rw[decide_eq_true_iff]
  rw[iX [] (by omega),iX [] (by omega)]
  refine⟨fun h=>⟨h5.1,by rw[h5.2,h]⟩,fun h => ?_⟩
  have:=List.append_inj_right' h.2 rfl
  simpa using this
 ·have h5:=h4.1 h5
  have e1:=h5.2
  rw[iE (by omega),iE (by omega)] at e1
  rw[h4]
  exact⟨fun _=>e1,fun h=>h5⟩
 ·subst h5
  rw[h4]
  refine⟨fun h=>absurd (h4.2 h) (by decide),fun h => ?_⟩
  subst h
  exact absurd (h4.2 ⟨rfl,rfl⟩) (by decide)
def mG (p:PD):Bw.den:=(p.1,p.2.1,p.2.2.1,p.2.2.2.1,p.1,p.2.1,p.2.1.reverse,p.1.reverse,p.1.reverse,p.2.1.reverse,p.2.1,p.1,())
def aaf:List TV→Dn
 | [.sl (.pair (.sl (.int .i64)) (.pair (.sl (.int .i64)) (.pair (.int .i64) (.pair (.sl (.int .i64)) .unit)))) l .no]=>some ([l.length≤1000,∀ p∈l,c9 p],.res (.sl Bw (l.map mG) .no) [] [],
  [(4,.dep fun te tS => .ex Nat fun i => .st { sl:=[(3,.sl Bw ((l.take i).map mG) (.oE tS.length)),(8,bk i)],own:=[(94,12)],dm:=[i≤l.length],m:=l.length-i })])
 | _=>none
def Q9:gP:=U2.cI 61 fun a=>dS (D50 a)
theorem ad3:VI Q9 Tryz.f66 [some (.sl Bw)] aaf:=by
 refine eX fun a => ?_
 unfold aaf
 split
 rotate_left
 ·trivial
 rename_i l
 intro hp
 refine qx (A:=(∃ (a:Nat),[]=List.map mG (List.take a l)∧0=(↑a:Int)∧a≤l.length∧l.length-a<1000000)∧∀ (a:Nat),a≤l.length→aG (decide ((↑a:Int)<(↑l.length:Int))) ((0≤(↑a:Int)∧(↑a:Int)<(↑l.length:Int))∧List.length (l.getD a ([],[],0,[],())).fst≤1000∧List.length (l.getD a ([],[],0,[],())).snd.fst≤1000∧(List.map mG (List.take a l)).length+1≤1000000000∧cE ((↑a:Int)+1)∧∃ (a_1:Nat),lM Bw.den∧List.map mG (List.take a l)++[((l.getD a ([],[],0,[],())).fst,(l.getD a ([],[],0,[],())).snd.fst,(l.getD a ([],[],0,[],())).snd.snd.fst,(l.getD a ([],[],0,[],())).snd.snd.snd.fst,(l.getD a ([],[],0,[],())).fst,(l.getD a ([],[],0,[],())).snd.fst,List.reverse (l.getD a ([],[],0,[],())).snd.fst,List.reverse (l.getD a ([],[],0,[],())).fst,List.reverse (l.getD a ([],[],0,[],())).fst,List.reverse (l.getD a ([],[],0,[],())).snd.fst,(l.getD a ([],[],0,[],())).snd.fst,(l.getD a ([],[],0,[],())).fst,())]=List.map mG (List.take a_1 l)∧l=l∧(↑l.length:Int)=(↑l.length:Int)∧(↑a:Int)+1=(↑a_1:Int)∧a_1≤l.length∧l.length-a_1<l.length-a) (List.map mG (List.take a l)=List.map mG l∧True)) (by kernel_rfl) ?_
 obtain⟨h1,h2,-⟩:=hp
 change List PD at l
 refine⟨⟨0,rfl,rfl,by omega,by omega⟩,fun i hi=>bL.2 ⟨fun hl => ?_,fun hl=>⟨by rw[iE (by omega)],trivial⟩⟩⟩
 have sp:c9 (l.getD i dP):=cV (by omega) h2
 refine⟨⟨by omega,by omega⟩,sp.1,sp.2.1,by rw[eT,iD]; omega,⟨by omega,by omega⟩,i+1,fE▸trivial,?_,rfl,rfl,by omega,by omega,by omega⟩
 rw[iX dP (by omega),gm]
 rfl
end Go.Tv
end
