import Derived.Test.YtedcgbkilmlbhaaGreatPk12
import Derived.Test.YtedcgbkilmlbhaaGreatPk11
section
namespace Go.Tv
open Go Go.Di Go.Proofs
set_option maxRecDepth 100000
def Q4:gP:=(Q1.cI 62 fun a=>dS (GZ a)).cI 63 fun a=>dS (VK a)
def PS.q1 (p0:List (aO).den) (p1:Int):Prop:=Ok (p0.getD p1.toNat ([],[],0,[],())).fst (p0.getD p1.toNat ([],[],0,[],())).snd.fst (p0.getD p1.toNat ([],[],0,[],())).snd.snd.fst (p0.getD p1.toNat ([],[],0,[],())).snd.snd.snd.fst
theorem PS:VI Q4 Tryz.f18 [some (.sl gX),some bO] NF:=by
  refine eX fun a => ?_
  unfold NF
  split
  rotate_left
  · trivial
  rename_i l x y
  intro hp
  refine qx (A:=l.length≤1000∧(∀ (p:(aO).den),p∈l→c9 p)∧∀ (a:Int),a=dn l x y→aG (a !=0) (∃ (a_1:List gX.den),∃ (a_2:Int),[]=a_1∧a=a_2∧a_1=pS l x y∧a_2=dn l x y∧True) ((0≤x∧x<(↑l.length:Int))∧(0≤y∧y<(↑l.length:Int))∧PS.q1 l x∧PS.q1 l y∧∃ (a:List gX.den),∃ (a_1:Int),bK (pd (l.getD x.toNat ([],[],0,[],())).fst (l.getD x.toNat ([],[],0,[],())).snd.fst (l.getD x.toNat ([],[],0,[],())).snd.snd.fst (l.getD x.toNat ([],[],0,[],())).snd.snd.snd.fst) (pd (l.getD y.toNat ([],[],0,[],())).fst (l.getD y.toNat ([],[],0,[],())).snd.fst (l.getD y.toNat ([],[],0,[],())).snd.snd.fst (l.getD y.toNat ([],[],0,[],())).snd.snd.snd.fst)=a∧0=a_1∧a=pS l x y∧a_1=dn l x y∧True)) (by kernel_rfl) ?_
  unfold PS.q1
  obtain⟨h1,h2,-⟩:=hp
  simp only[cC,eq_self,true_and,and_true]
  refine⟨h1,h2,fun e he=>⟨fun e0 => ?_,fun e1=>⟨[],e,rfl,rfl,by rw[pS,if_neg (he▸e1)],he⟩⟩⟩
  subst he
  obtain⟨k1,k2,k3,k4,k5,k6,k7⟩:=xb e0
  have o1:wq (l.getD x.toNat dP):=cV (by omega) k2
  have o2:wq (l.getD y.toNat dP):=cV (by omega) k2
  exact⟨⟨k3,k4⟩,⟨k5,k6⟩,o1,o2,_,_,rfl,rfl,by rw[pS,if_pos e0],e0.symm⟩
def sr (l:List PD) (a b:Int):Int:=if dn l a b=0 then Bm (l.getD a.toNat dP) (l.getD b.toNat dP) else 0
def Q5:gP:=((Q0.cI 59 fun a=>dS (GZ a)).cI 61 fun a=>dS (D50 a)).cI 64 fun a=>dS (D31 a)
def ND:List TV→Dn
  | [.sl (.pair (.sl (.int .i64)) (.pair (.sl (.int .i64)) (.pair (.int .i64) (.pair (.sl (.int .i64)) .unit)))) l .no,.val (.int .i64 a),.val (.int .i64 b)]=>some ([l.length≤1000,∀ p∈l,c9 p],.ex Int fun x => .ex Int fun e => .res (.gd [bk x,bk e]) [] [x=sr l a b,e=dn l a b],[])
  | _=>none
def mQ.q1 (p0:bM.den) (p1:Prop):Prop:=List.reverse p0=List.reverse p0∧p1
def mQ.q2 (p0:bM.den):Prop:=p0=p0
def mQ.q3 (p0:List (aO).den) (p1:Int) (p2:Prop):Prop:=mQ.q2 (p0.getD p1.toNat ([],[],0,[],())).fst∧mQ.q2 (p0.getD p1.toNat ([],[],0,[],())).snd.fst∧mQ.q1 (p0.getD p1.toNat ([],[],0,[],())).snd.fst (mQ.q1 (p0.getD p1.toNat ([],[],0,[],())).fst (mQ.q1 (p0.getD p1.toNat ([],[],0,[],())).fst (mQ.q1 (p0.getD p1.toNat ([],[],0,[],())).snd.fst (mQ.q2 (p0.getD p1.toNat ([],[],0,[],())).snd.fst∧mQ.q2 (p0.getD p1.toNat ([],[],0,[],())).fst∧p2))))
def mQ.q4 (p0:List (aO).den) (p1:Int):Prop:=Ok (p0.getD p1.toNat ([],[],0,[],())).fst (p0.getD p1.toNat ([],[],0,[],())).snd.fst (p0.getD p1.toNat ([],[],0,[],())).snd.snd.fst (p0.getD p1.toNat ([],[],0,[],())).snd.snd.snd.fst
def mQ.q5 (p0:List (aO).den) (p1:Int) (p2:Prop):Prop:=(0≤p1∧p1<(↑p0.length:Int))∧List.length (p0.getD p1.toNat ([],[],0,[],())).fst≤1000∧List.length (p0.getD p1.toNat ([],[],0,[],())).snd.fst≤1000∧p2
theorem mQ:VI Q5 Tryz.f19 [some bO,some bO] ND:=by
  refine eX fun a => ?_
  unfold ND
  split
  rotate_left
  · trivial
  rename_i l x y
  intro hp
  refine qx (A:=l.length≤1000∧(∀ (p:(aO).den),p∈l→c9 p)∧∀ (a:Int),a=dn l x y→aG (a !=0) (∃ (a_1:Int),∃ (a_2:Int),0=a_1∧a=a_2∧a_1=sr l x y∧a_2=dn l x y∧True) (mQ.q5 l x (mQ.q5 l y (mQ.q4 l x∧mQ.q4 l y∧mQ.q3 l x (mQ.q3 l y (∃ (a:Int),∃ (a_1:Int),G8 (l.getD x.toNat ([],[],0,[],())).fst (l.getD x.toNat ([],[],0,[],())).snd.fst (l.getD x.toNat ([],[],0,[],())).snd.snd.snd.fst (l.getD y.toNat ([],[],0,[],())).fst (l.getD y.toNat ([],[],0,[],())).snd.fst (l.getD y.toNat ([],[],0,[],())).snd.snd.snd.fst (l.getD x.toNat ([],[],0,[],())).snd.snd.fst (l.getD y.toNat ([],[],0,[],())).snd.snd.fst=a∧0=a_1∧a=sr l x y∧a_1=dn l x y∧True)))))) (by kernel_rfl) ?_
  unfold mQ.q5 mQ.q4 mQ.q3 mQ.q2 mQ.q1
  obtain⟨h1,h2,-⟩:=hp
  simp only[cC,eq_self,true_and,and_true]
  refine⟨h1,h2,fun e he=>⟨fun e0 => ?_,fun e1=>⟨0,e,rfl,rfl,by rw[sr,if_neg (he▸e1)],he⟩⟩⟩
  subst he
  obtain⟨k1,k2,k3,k4,k5,k6,k7⟩:=xb e0
  have o1:wq (l.getD x.toNat dP):=cV (by omega) k2
  have o2:wq (l.getD y.toNat dP):=cV (by omega) k2
  have s1:=BC o1
  have s2:=BC o2
  exact⟨⟨k3,k4⟩,s1.1,s1.2.1,⟨k5,k6⟩,s2.1,s2.2.1,o1,o2,_,_,rfl,rfl,by rw[sr,if_pos e0]; rfl,e0.symm⟩
def Q7:gP:=(Q1.cI 62 fun a=>dS (GZ a)).cI 65 fun a=>dS (VJ a)
def PR.q1 (p0:List (aO).den) (p1:Int):Prop:=Ok (p0.getD p1.toNat ([],[],0,[],())).fst (p0.getD p1.toNat ([],[],0,[],())).snd.fst (p0.getD p1.toNat ([],[],0,[],())).snd.snd.fst (p0.getD p1.toNat ([],[],0,[],())).snd.snd.snd.fst
theorem PR:VI Q7 Tryz.f20 [some bO,some bO] ND:=by
  refine eX fun a => ?_
  unfold ND
  split
  rotate_left
  · trivial
  rename_i l x y
  intro hp
  refine qx (A:=l.length≤1000∧(∀ (p:(aO).den),p∈l→c9 p)∧∀ (a:Int),a=dn l x y→aG (a !=0) (∃ (a_1:Int),∃ (a_2:Int),0=a_1∧a=a_2∧a_1=sr l x y∧a_2=dn l x y∧True) ((0≤x∧x<(↑l.length:Int))∧(0≤y∧y<(↑l.length:Int))∧PR.q1 l x∧PR.q1 l y∧∀ (a:Int),a=Bl (pd (l.getD x.toNat ([],[],0,[],())).fst (l.getD x.toNat ([],[],0,[],())).snd.fst (l.getD x.toNat ([],[],0,[],())).snd.snd.fst (l.getD x.toNat ([],[],0,[],())).snd.snd.snd.fst) (pd (l.getD y.toNat ([],[],0,[],())).fst (l.getD y.toNat ([],[],0,[],())).snd.fst (l.getD y.toNat ([],[],0,[],())).snd.snd.fst (l.getD y.toNat ([],[],0,[],())).snd.snd.snd.fst)→∃ (a_1:Int),∃ (a_2:Int),a=a_1∧0=a_2∧a_1=sr l x y∧a_2=dn l x y∧True)) (by kernel_rfl) ?_
  unfold PR.q1
  obtain⟨h1,h2,-⟩:=hp
  simp only[cC,eq_self,true_and,and_true]
  refine⟨h1,h2,fun e he=>⟨fun e0 => ?_,fun e1=>⟨0,e,rfl,rfl,by rw[sr,if_neg (he▸e1)],he⟩⟩⟩
  subst he
  obtain⟨k1,k2,k3,k4,k5,k6,k7⟩:=xb e0
  have o1:wq (l.getD x.toNat dP):=cV (by omega) k2
  have o2:wq (l.getD y.toNat dP):=cV (by omega) k2
  exact⟨⟨k3,k4⟩,⟨k5,k6⟩,o1,o2,fun n hn=>⟨_,_,rfl,rfl,by rw[sr,if_pos e0,hn]; exact D9 o1 o2,e0.symm⟩⟩
theorem Xe {x y:uY}:(x.1==y.1&&(x.2.1==y.2.1&&(x.2.2.1==y.2.2.1&&true)))=true↔x=y:=by
  obtain⟨u,l,s,c⟩:=x
  obtain⟨u2,l2,s2,c2⟩:=y
  simp
def aal:List TV→Dn
  | [.sl (.pair (.int .i64) (.pair (.int .i64) (.pair (.int .i64) .unit))) l .no,.sl (.pair (.int .i64) (.pair (.int .i64) (.pair (.int .i64) .unit))) m .no]=>some ([l.length≤1000,m.length≤1000],.ex Bool fun b => .res (kC b) [] [b=true↔l=m],
    [(4,.ex Nat fun i => .ex Bool fun b => .st { sl:=[(5,kC b),(6,bk i)],dm:=[i≤l.length,b=true↔(l.length=m.length∧l.take i=m.take i)],m:=l.length-i })])
  | _=>none
theorem ad7:VI T0 Tryz.f21 [some .bool] aal:=by
  refine eX fun a => ?_
  unfold aal
  split
  rotate_left
  · trivial
  rename_i l m
  intro hp
  refine qx (A:=(∃ (a:Nat),∃ (a_1:Bool),((↑l.length:Int)==(↑m.length:Int))=a_1∧0=(↑a:Int)∧a≤l.length∧(a_1=true↔l.length=m.length∧List.take a l=List.take a m)∧l.length-a<1000000)∧∀ (a:Nat) (a_1:Bool),a≤l.length→(a_1=true↔l.length=m.length∧List.take a l=List.take a m)→aG a_1 (aG (decide ((↑a:Int)<(↑l.length:Int))) ((0≤(↑a:Int)∧(↑a:Int)<(↑l.length:Int))∧(0≤(↑a:Int)∧(↑a:Int)<(↑m.length:Int))∧cE ((↑a:Int)+1)∧∃ (a_2:Nat),∃ (a_3:Bool),l=l∧m=m∧false=false∧((l.getD a (0,0,0,())).fst==(m.getD a (0,0,0,())).fst&&((l.getD a (0,0,0,())).snd.fst==(m.getD a (0,0,0,())).snd.fst&&((l.getD a (0,0,0,())).snd.snd.fst==(m.getD a (0,0,0,())).snd.snd.fst&&true)))=a_3∧(↑a:Int)+1=(↑a_2:Int)∧a_2≤l.length∧(a_3=true↔l.length=m.length∧List.take a_2 l=List.take a_2 m)∧l.length-a_2<l.length-a) (∃ (a:Bool),a_1=a∧(a=true↔l=m)∧True)) (∃ (a:Bool),a_1=a∧(a=true↔l=m)∧True)) (by kernel_rfl) ?_
  obtain⟨h1,h2,-⟩:=hp
  refine⟨⟨0,_,rfl,rfl,by omega,by simp; omega,by omega⟩,fun i b h3 h4=>gY.2 ⟨fun h5=>bL.2 ⟨fun h6 => ?_,fun h6=>⟨_,rfl,?_,trivial⟩⟩,fun h5=>⟨_,rfl,?_,trivial⟩⟩⟩
  · have h5:=h4.1 h5
    refine⟨⟨by omega,by omega⟩,⟨by omega,by omega⟩,⟨by omega,by omega⟩,i+1,_,rfl,rfl,rfl,rfl,by omega,by omega,?_,by omega⟩
    refine(Xe).trans ?_
    rw[iX (0,0,0,()) (by omega),iX (0,0,0,()) (by omega)]
    refine⟨fun h=>⟨h5.1,by rw[h5.2,h]⟩,fun h => ?_⟩
    have:=List.append_inj_right' h.2 rfl
    simpa using this
  · have h5:=h4.1 h5
    have e1:=h5.2
    rw[iE (by omega),iE (by omega)] at e1
    rw[h4]
    exact⟨fun _=>e1,fun h=>h5⟩
  · subst h5
    rw[h4]
    refine⟨fun h=>absurd (h4.2 h) (by decide),fun h => ?_⟩
    subst h
    exact absurd (h4.2 ⟨rfl,rfl⟩) (by decide)
def vh (l:List PD) (i k:Nat):List (List Int):=((List.range k).filter fun j=>decide (i<j∧1<Bm (l.getD i dP) (l.getD j dP))).map fun(j:Nat)=>[(i:Int),(j:Int)]
def uz (l:List PD) (i:Nat):List (List Int):=(List.range i).flatMap fun i=>vh l i l.length
section
variable {l:List PD} {i k:Nat}
theorem Iz (h:k≤i+1):vh l i k=[]:=by
  rw[vh,List.filter_eq_nil_iff.2]
  · rfl
  · intro j hj
    rw[List.mem_range] at hj
    simp only[bJ]
    omega
theorem MR (h:i<k) (h1:1<Bm (l.getD i dP) (l.getD k dP)):vh l i k++[[(i:Int),(k:Int)]]=vh l i (k+1):=by
  rw[vh,vh,jM,oZ,gm,List.filter_cons,if_pos (gB ⟨h,h1⟩)]
  rfl
theorem RN (h1:¬ 1<Bm (l.getD i dP) (l.getD k dP)):vh l i k=vh l i (k+1):=by
  rw[vh,vh,jM,oZ,gm,List.filter_cons,if_neg (by simp only[bJ]; exact fun h=>h1 h.2)]
  simp
theorem IA:uz l i++vh l i l.length=uz l (i+1):=by
  rw[uz,uz,jM,List.flatMap_append]; simp
theorem F8:(vh l i k).length≤k:=by
  rw[vh,eT]
  refine aS (qR _ _) ?_
  simp
theorem F9 (h:l.length≤4):(uz l i).length≤i*4:=by
  refine aS (qL (c:=4) fun j _=>aS F8 h) ?_
  simp
theorem X0 {d:Bw.den} (h:k<l.length):(l.map mG).getD k d=mG (l.getD k dP):=by
  rw[aN,eE,bH h,aN,bH h]; rfl
end
def JB (l:List PD):List (List Int):=if jg l=0 then uz l l.length else []
def Q10:gP:=((Q0.cI 66 fun a=>dS (aaf a)).cI 64 fun a=>dS (D31 a))
def aak:List TV→Dn
  | [.sl (.pair (.sl (.int .i64)) (.pair (.sl (.int .i64)) (.pair (.int .i64) (.pair (.sl (.int .i64)) .unit)))) l .no]=>some ([l.length≤1000,∀ p∈l,c9 p],.ex (List (List Int)) fun x => .ex Int fun e => .res (.gd [.sl bM x .no,bk e]) [] [x=JB l,e=jg l],
    [(9,.dep fun te tS => .ex Nat fun i => .st { sl:=[(6,.sl bM (uz l i) (.oE tS.length)),(18,bk i)],own:=[(23,1)],dm:=[i≤l.length],m:=l.length-i }),
     (15,.dep fun te tS=>uP te 7 fun i => .ex Nat fun k => .st { sl:=[(6,.sl bM (uz l i++vh l i k) (.oE (tS.length-1))),(8,bk k)],dm:=[i<k,k≤l.length],m:=l.length-k })])
  | _=>none
def x8.q1 (p0:List (aO).den) (p1:Nat) (p2:Prop):Prop:=((List.map mG p0).getD p1 ([],[],0,[],[],[],[],[],[],[],[],[],())).snd.snd.snd.snd.fst=((List.map mG p0).getD p1 ([],[],0,[],[],[],[],[],[],[],[],[],())).fst∧((List.map mG p0).getD p1 ([],[],0,[],[],[],[],[],[],[],[],[],())).snd.snd.snd.snd.snd.fst=((List.map mG p0).getD p1 ([],[],0,[],[],[],[],[],[],[],[],[],())).snd.fst∧((List.map mG p0).getD p1 ([],[],0,[],[],[],[],[],[],[],[],[],())).snd.snd.snd.snd.snd.snd.fst=List.reverse ((List.map mG p0).getD p1 ([],[],0,[],[],[],[],[],[],[],[],[],())).snd.fst∧((List.map mG p0).getD p1 ([],[],0,[],[],[],[],[],[],[],[],[],())).snd.snd.snd.snd.snd.snd.snd.fst=List.reverse ((List.map mG p0).getD p1 ([],[],0,[],[],[],[],[],[],[],[],[],())).fst∧((List.map mG p0).getD p1 ([],[],0,[],[],[],[],[],[],[],[],[],())).snd.snd.snd.snd.snd.snd.snd.snd.fst=List.reverse ((List.map mG p0).getD p1 ([],[],0,[],[],[],[],[],[],[],[],[],())).fst∧((List.map mG p0).getD p1 ([],[],0,[],[],[],[],[],[],[],[],[],())).snd.snd.snd.snd.snd.snd.snd.snd.snd.fst=List.reverse ((List.map mG p0).getD p1 ([],[],0,[],[],[],[],[],[],[],[],[],())).snd.fst∧((List.map mG p0).getD p1 ([],[],0,[],[],[],[],[],[],[],[],[],())).snd.snd.snd.snd.snd.snd.snd.snd.snd.snd.fst=((List.map mG p0).getD p1 ([],[],0,[],[],[],[],[],[],[],[],[],())).snd.fst∧((List.map mG p0).getD p1 ([],[],0,[],[],[],[],[],[],[],[],[],())).snd.snd.snd.snd.snd.snd.snd.snd.snd.snd.snd.fst=((List.map mG p0).getD p1 ([],[],0,[],[],[],[],[],[],[],[],[],())).fst∧p2
def x8.q2 (p0:List (aO).den) (p1:Nat):Prop:=Ok ((List.map mG p0).getD p1 ([],[],0,[],[],[],[],[],[],[],[],[],())).fst ((List.map mG p0).getD p1 ([],[],0,[],[],[],[],[],[],[],[],[],())).snd.fst ((List.map mG p0).getD p1 ([],[],0,[],[],[],[],[],[],[],[],[],())).snd.snd.fst ((List.map mG p0).getD p1 ([],[],0,[],[],[],[],[],[],[],[],[],())).snd.snd.snd.fst
def x8.q3 (p0 p1:Nat) (p2:List (aO).den) (p3:Nat):Prop:=(↑p0:Int)=(↑p0:Int)∧(↑p1:Int)+1=(↑p3:Int)∧(↑(List.map mG p2).length:Int)=(↑(List.map mG p2).length:Int)∧(↑p0:Int)=(↑p0:Int)∧true=true∧(↑p0:Int)=(↑p0:Int)∧(↑p0:Int)=(↑p0:Int)∧(↑p0:Int)+1=(↑p0:Int)+1∧p0<p3∧p3≤p2.length∧p2.length-p3<p2.length-p1
theorem x8:VI Q10 Tryz.f22 [some (.sl bM),some bO] aak:=by
  refine eX fun a => ?_
  unfold aak
  split
  rotate_left
  · trivial
  rename_i l
  intro hp
  refine qx (A:=l.length≤1000∧(∀ (p:(aO).den),p∈l→c9 p)∧aG (jg l !=0) (∃ (a:List (List Int)),∃ (a_1:Int),[]=a∧jg l=a_1∧a=JB l∧a_1=jg l∧True) (l.length≤1000∧(∀ (p:(aO).den),p∈l→c9 p)∧(∃ (a:Nat),[]=uz l a∧0=(↑a:Int)∧a≤l.length∧l.length-a<1000000)∧∀ (a:Nat),a≤l.length→aG (decide ((↑a:Int)<(↑(List.map mG l).length:Int))) (cE ((↑a:Int)+1)∧(∃ (a_1:Nat),uz l a=uz l a++vh l a a_1∧(↑a:Int)+1=(↑a_1:Int)∧a<a_1∧a_1≤l.length∧l.length-a_1<1000000)∧∀ (a_1:Nat),a<a_1→a_1≤l.length→aG (decide ((↑a_1:Int)<(↑(List.map mG l).length:Int))) ((0≤(↑a:Int)∧(↑a:Int)<(↑(List.map mG l).length:Int))∧(0≤(↑a_1:Int)∧(↑a_1:Int)<(↑(List.map mG l).length:Int))∧x8.q2 l a∧x8.q2 l a_1∧x8.q1 l a (x8.q1 l a_1 (aG (decide (G8 ((List.map mG l).getD a ([],[],0,[],[],[],[],[],[],[],[],[],())).fst ((List.map mG l).getD a ([],[],0,[],[],[],[],[],[],[],[],[],())).snd.fst ((List.map mG l).getD a ([],[],0,[],[],[],[],[],[],[],[],[],())).snd.snd.snd.fst ((List.map mG l).getD a_1 ([],[],0,[],[],[],[],[],[],[],[],[],())).fst ((List.map mG l).getD a_1 ([],[],0,[],[],[],[],[],[],[],[],[],())).snd.fst ((List.map mG l).getD a_1 ([],[],0,[],[],[],[],[],[],[],[],[],())).snd.snd.snd.fst ((List.map mG l).getD a ([],[],0,[],[],[],[],[],[],[],[],[],())).snd.snd.fst ((List.map mG l).getD a_1 ([],[],0,[],[],[],[],[],[],[],[],[],())).snd.snd.fst>1)) ((uz l a++vh l a a_1).length+1≤1000000000∧cE ((↑a_1:Int)+1)∧∃ (a_2:Nat),lM bM.den∧(0:Int)=0∧List.map mG l=List.map mG l∧uz l a++vh l a a_1++[[(↑a:Int),(↑a_1:Int)]]=uz l a++vh l a a_2∧x8.q3 a a_1 l a_2) (cE ((↑a_1:Int)+1)∧∃ (a_2:Nat),lM bM.den∧(0:Int)=0∧List.map mG l=List.map mG l∧uz l a++vh l a a_1=uz l a++vh l a a_2∧x8.q3 a a_1 l a_2)))) (cE ((↑a:Int)+1)∧∃ (a_2:Nat),lM bM.den∧(0:Int)=0∧List.map mG l=List.map mG l∧uz l a++vh l a a_1=uz l a_2∧(↑(List.map mG l).length:Int)=(↑(List.map mG l).length:Int)∧(↑a:Int)+1=(↑a_2:Int)∧a_2≤l.length∧l.length-a_2<l.length-a)) (∃ (a_1:List (List Int)),∃ (a_2:Int),uz l a=a_1∧0=a_2∧a_1=JB l∧a_2=jg l∧True))) (by kernel_rfl) ?_
  unfold x8.q3 x8.q2 x8.q1
  obtain⟨h1,h2,-⟩:=hp
  change List PD at l
  simp only[cC,bL,eq_self,true_and,and_true,fE,cE,eT]
  refine⟨h1,h2,fun e0 => ?_,fun e1=>⟨[],_,rfl,rfl,by rw[JB,if_neg e1],rfl⟩⟩
  obtain⟨k1,k2⟩:=AX e0
  refine⟨h1,h2,⟨0,rfl,rfl,by omega,by omega⟩,fun i hi=>⟨fun C4=>⟨⟨by omega,by omega⟩,⟨i+1,by rw[Iz (by omega),ff],by omega,by omega,by omega,by omega⟩,fun k hk pK=>⟨fun hl => ?_,fun hl => ?_⟩⟩,fun C4 => ?_⟩⟩
  · have o1:wq (l.getD i dP):=cV (by omega) k2
    have o2:wq (l.getD k dP):=cV (by omega) k2
    have lA:=F9 (i:=i) k1
    have lB:=F8 (l:=l) (i:=i) (k:=k)
    simp only[X0 (l:=l) (k:=i) (by omega),X0 (l:=l) (k:=k) (by omega),mG,eq_self]
    exact⟨⟨by omega,by omega⟩,⟨by omega,by omega⟩,o1,o2,trivial,trivial,trivial,trivial,trivial,trivial,trivial,trivial,trivial,trivial,trivial,trivial,trivial,trivial,trivial,trivial,⟨fun c=>⟨by rw[b9]; omega,⟨by omega,by omega⟩,k+1,by rw[gD,MR (by omega) c],by omega,by omega,by omega,by omega⟩,fun c=>⟨⟨by omega,by omega⟩,k+1,by rw[RN c],by omega,by omega,by omega,by omega⟩⟩⟩
  · refine⟨⟨by omega,by omega⟩,i+1,by rw[show k=l.length by omega,IA],by omega,by omega,by omega⟩
  · exact⟨_,_,rfl,e0.symm,by rw[JB,if_pos e0,show i=l.length by omega],rfl⟩
def Q11:gP:=Q1.cI 65 fun a=>dS (VJ a)
def aaj:List TV→Dn
  | [.sl (.pair (.sl (.int .i64)) (.pair (.sl (.int .i64)) (.pair (.int .i64) (.pair (.sl (.int .i64)) .unit)))) l .no]=>some ([l.length≤1000,∀ p∈l,c9 p],.ex (List (List Int)) fun x => .ex Int fun e => .res (.gd [.sl bM x .no,bk e]) [] [x=JB l,e=jg l],
    [(8,.dep fun te tS => .ex Nat fun i => .st { sl:=[(5,.sl bM (uz l i) (.oE tS.length)),(6,bk i)],own:=[(23,1)],dm:=[i≤l.length],m:=l.length-i }),
     (13,.dep fun te tS=>uP te 6 fun i => .ex Nat fun k => .st { sl:=[(5,.sl bM (uz l i++vh l i k) (.oE (tS.length-1))),(7,bk k)],dm:=[i<k,k≤l.length],m:=l.length-k })])
  | _=>none
def E6.q1 (p0 p1:Nat) (p2:List (aO).den) (p3:Nat):Prop:=(↑p0:Int)=(↑p0:Int)∧(↑p1:Int)+1=(↑p3:Int)∧(↑p0:Int)=(↑p0:Int)∧p2=p2∧(↑p2.length:Int)=(↑p2.length:Int)∧true=true∧(↑p0:Int)=(↑p0:Int)∧(↑p0:Int)+1=(↑p0:Int)+1∧p0<p3∧p3≤p2.length∧p2.length-p3<p2.length-p1
def E6.q2 (p0:List (aO).den) (p1:Nat):Prop:=Ok (p0.getD p1 ([],[],0,[],())).fst (p0.getD p1 ([],[],0,[],())).snd.fst (p0.getD p1 ([],[],0,[],())).snd.snd.fst (p0.getD p1 ([],[],0,[],())).snd.snd.snd.fst
theorem E6:VI Q11 Tryz.f23 [some (.sl bM),some bO] aaj:=by
  refine eX fun a => ?_
  unfold aaj
  split
  rotate_left
  · trivial
  rename_i l
  intro hp
  refine qx (A:=l.length≤1000∧(∀ (p:(aO).den),p∈l→c9 p)∧aG (jg l !=0) (∃ (a:List (List Int)),∃ (a_1:Int),[]=a∧jg l=a_1∧a=JB l∧a_1=jg l∧True) ((∃ (a:Nat),[]=uz l a∧0=(↑a:Int)∧a≤l.length∧l.length-a<1000000)∧∀ (a:Nat),a≤l.length→aG (decide ((↑a:Int)<(↑l.length:Int))) (cE ((↑a:Int)+1)∧(∃ (a_1:Nat),uz l a=uz l a++vh l a a_1∧(↑a:Int)+1=(↑a_1:Int)∧a<a_1∧a_1≤l.length∧l.length-a_1<1000000)∧∀ (a_1:Nat),a<a_1→a_1≤l.length→aG (decide ((↑a_1:Int)<(↑l.length:Int))) ((0≤(↑a:Int)∧(↑a:Int)<(↑l.length:Int))∧(0≤(↑a_1:Int)∧(↑a_1:Int)<(↑l.length:Int))∧E6.q2 l a∧E6.q2 l a_1∧∀ (a_2:Int),a_2=Bl (pd (l.getD a ([],[],0,[],())).fst (l.getD a ([],[],0,[],())).snd.fst (l.getD a ([],[],0,[],())).snd.snd.fst (l.getD a ([],[],0,[],())).snd.snd.snd.fst) (pd (l.getD a_1 ([],[],0,[],())).fst (l.getD a_1 ([],[],0,[],())).snd.fst (l.getD a_1 ([],[],0,[],())).snd.snd.fst (l.getD a_1 ([],[],0,[],())).snd.snd.snd.fst)→aG (decide (a_2>1)) ((uz l a++vh l a a_1).length+1≤1000000000∧cE ((↑a_1:Int)+1)∧∃ (a_3:Nat),l=l∧lM bM.den∧(0:Int)=0∧uz l a++vh l a a_1++[[(↑a:Int),(↑a_1:Int)]]=uz l a++vh l a a_3∧E6.q1 a a_1 l a_3) (cE ((↑a_1:Int)+1)∧∃ (a_3:Nat),l=l∧lM bM.den∧(0:Int)=0∧uz l a++vh l a a_1=uz l a++vh l a a_3∧E6.q1 a a_1 l a_3)) (cE ((↑a:Int)+1)∧∃ (a_2:Nat),l=l∧lM bM.den∧(0:Int)=0∧uz l a++vh l a a_1=uz l a_2∧(↑a:Int)+1=(↑a_2:Int)∧a_2≤l.length∧l.length-a_2<l.length-a)) (∃ (a_1:List (List Int)),∃ (a_2:Int),uz l a=a_1∧0=a_2∧a_1=JB l∧a_2=jg l∧True))) (by kernel_rfl) ?_
  unfold E6.q2 E6.q1
  obtain⟨h1,h2,-⟩:=hp
  change List PD at l
  simp only[cC,bL,eq_self,true_and,and_true,fE,cE]
  refine⟨h1,h2,fun e0 => ?_,fun e1=>⟨[],_,rfl,rfl,by rw[JB,if_neg e1],rfl⟩⟩
  obtain⟨k1,k2⟩:=AX e0
  refine⟨⟨0,rfl,rfl,by omega,by omega⟩,fun i hi=>⟨fun C4=>⟨⟨by omega,by omega⟩,⟨i+1,by rw[Iz (by omega),ff],by omega,by omega,by omega,by omega⟩,fun k hk pK=>⟨fun hl => ?_,fun hl => ?_⟩⟩,fun C4 => ?_⟩⟩
  · have o1:wq (l.getD i dP):=cV (by omega) k2
    have o2:wq (l.getD k dP):=cV (by omega) k2
    have lA:=F9 (i:=i) k1
    have lB:=F8 (l:=l) (i:=i) (k:=k)
    refine⟨⟨by omega,by omega⟩,⟨by omega,by omega⟩,o1,o2,fun n hn => ?_⟩
    have hn:n=Bm (l.getD i dP) (l.getD k dP):=hn.trans (D9 o1 o2)
    subst hn
    exact⟨fun c=>⟨by rw[b9]; omega,⟨by omega,by omega⟩,k+1,by rw[gD,MR (by omega) c],by omega,by omega,by omega,by omega⟩,fun c=>⟨⟨by omega,by omega⟩,k+1,by rw[RN c],by omega,by omega,by omega,by omega⟩⟩
  · refine⟨⟨by omega,by omega⟩,i+1,by rw[show k=l.length by omega,IA],by omega,by omega,by omega⟩
  · exact⟨_,_,rfl,e0.symm,by rw[JB,if_pos e0,show i=l.length by omega],rfl⟩
end Go.Tv
end
section
namespace Go.Tv
open Go Go.Di Go.Proofs
set_option maxRecDepth 100000
def Rc (te:List TV) (i:Nat) (k:Nat→LA):LA :=
 match te.getD i .unk with
 | .ptr p _=>k p
 | _ => .un 0
def acH (te:List TV) (i:Nat) (k:Int→LA):LA :=
 match te.getD i .unk with
 | .val (.int .i64 n)=>k n
 | _ => .un 0
def J26:List (Nat×LA):=[(4,.dep fun te tS=>acH te 6 fun k=>Rc te 0 fun p => .ex Nat fun m => .ex (List aO.den) fun l => .ex (List Int) fun r => .ex Int fun z => .st { sl:=[(5,.sl aO l (.oE tS.length)),(6,bk m)],pl:=[(p,yd r z)],own:=[(25,4)],dm:=[(l.length+m:Int)≤k∨(l.length+m:Int)=0,∀ p∈l,wq p],m:=m })]
def sI (x:List aO.den):Prop:=x.length≤20∧∀ p∈x,c9 p
noncomputable def H4:gP:=(((T6.cI 42 fun a=>dS (D20 a)).VF 26 Tryz.f26 J26).VF 16 Tryz.f16 J16)
def D14:List TV→List TV→Dn
 | [.sl (.pair (.sl (.int .i64)) (.pair (.sl (.int .i64)) (.pair (.int .i64) (.pair (.sl (.int .i64)) .unit)))) l .no,.agg [.sl (.int .i64) u .no,.sl (.int .i64) lo .no,.val (.int .i64 w),.sl (.int .i64) q .no],.ptr 0 0],[.sl (.int .i64) _ .no,.val (.int .u64 _)] =>
  some ([sI l,Sh u lo q],.ex (List (List aO.den)) fun all => .ex (List Int) fun r => .ex Int fun z => .res (.sl (.sl aO) all .no) (yd r z) [all.length=3,∀ x∈all,sI x],
   [(1,.ex (List aO.den) fun ps => .ex (List Int) fun r => .ex Int fun z => .st { sl:=[(7,.sl aO ps .no)],pl:=[(0,yd r z)],dm:=[ps.length≤4,∀ p∈ps,wq p] })])
 | _,_=>none
theorem F0 {l:List aO.den} {u lo q:List Int} {w:Int} (h:∀ p∈l,wq p) (ho:Ok u lo w q):∀ p∈l++[(u,lo,w,q,())],wq p:=fun p hp=>by
 rcases ja.1 hp with hp | hp
 ·exact h p hp
 ·rw[bN.1 hp]; exact ho
def v14.q1 (p0:List aO.den) (p1:Nat) (p2 p3:List bO.den) (p4:Int) (p5:List bO.den) (p6:Int) (p7 p8:List Int) (p9:Int) (C0 XB:List Int) (XA:Int):Prop:=p0.length+1≤1000000000∧cE ((↑p1:Int)-1)∧∃ (a:Nat),∃ (a_1:List aO.den),∃ (a_2:List Int),∃ (a_3:Int),lM aO.den∧p0++[(p7,p8,p9,C0,())]=a_1∧(↑p1:Int)-1=(↑a:Int)∧XB=a_2∧XA=a_3∧p2=p2∧p3=p3∧p4=p4∧p5=p5∧((↑a_1.length:Int)+(↑a:Int)≤p6∨(↑a_1.length:Int)+(↑a:Int)=0)∧(∀ (p:aO.den),p∈a_1→wq p)∧a<p1
def v14.q2 (p0:List (aO).den) (p1 p2:List aO.den) (p3:List Int) (p4:Int):Prop:=∃ (a:List (List aO.den)),∃ (a_1:List Int),∃ (a_2:Int),[p0,p1,p2]=a∧p3=a_1∧p4=a_2∧a.length=3∧(∀ (x:List aO.den),x∈a→sI x)∧True
def v14.q3 (p0:List aO.den) (p1:Int) (p2 p3:Nat) (p4:Prop):Prop:=(0≤p1∧p1<(↑p0.length:Int))∧Sh (p0.getD p2 ([],[],0,[],())).fst (p0.getD p2 ([],[],0,[],())).snd.fst (p0.getD p2 ([],[],0,[],())).snd.snd.snd.fst∧p3≤1000000000∧p4
theorem v14:VC H4 Tryz.f14 [some (.sl (.sl aO))] [some bM,some (.int .u64)] D14 1:=by
 refine acN fun a cs => ?_
 unfold D14
 split
 rotate_left
 ·trivial
 rename_i l u lo w q r z
 intro hp
 refine qx (A:=((4:Int)≤1000∧(-10000:Int)≤4∧∀ (a:Int) (a_1:List Int) (a_2:Int),0≤a→a≤4∨a=0→(∃ (a_3:Nat),∃ (a_4:List aO.den),∃ (a_5:List Int),∃ (a_6:Int),[]=a_4∧a=(↑a_3:Int)∧a_1=a_5∧a_2=a_6∧((↑a_4.length:Int)+(↑a_3:Int)≤a∨(↑a_4.length:Int)+(↑a_3:Int)=0)∧(∀ (p:aO.den),p∈a_4→wq p)∧a_3<1000000)∧∀ (a_3:Nat) (a_4:List aO.den) (a_5:List Int) (a_6:Int),(↑a_4.length:Int)+(↑a_3:Int)≤a∨(↑a_4.length:Int)+(↑a_3:Int)=0→(∀ (p:aO.den),p∈a_4→wq p)→aG (decide ((↑a_3:Int)>0)) (aG (decide ((↑a_4.length:Int)>0)) ((2:Int)≤1000∧(0:Int)≤2∧∀ (a_7:Bool) (a_8:Int) (a_9:List Int) (a_10:Int),aG a_7 (cE ((↑a_4.length:Int)-1)∧(↑a_4.length:Int)-1≤1000∧(-10000:Int)≤(↑a_4.length:Int)-1∧∀ (a_11:Int) (a_12:List Int) (a_13:Int),0≤a_11→a_11≤(↑a_4.length:Int)-1∨a_11=0→(0≤a_11∧a_11<(↑a_4.length:Int))∧Ok (a_4.getD a_11.toNat ([],[],0,[],())).fst (a_4.getD a_11.toNat ([],[],0,[],())).snd.fst (a_4.getD a_11.toNat ([],[],0,[],())).snd.snd.fst (a_4.getD a_11.toNat ([],[],0,[],())).snd.snd.snd.fst∧∀ (a_14 a_15:List Int) (a_16:Int) (a_17 a_18:List Int) (a_19:Int),Ok a_14 a_15 a_16 a_17→a_14=List.map (fun(x:bO.den)=>(9:bO.den)-x) (a_4.getD a_11.toNat ([],[],0,[],())).snd.fst→v14.q1 a_4 a_3 u lo w q a a_14 a_15 a_16 a_17 a_18 a_19) ((3:Int)≤5∧(5:Int)≤8∧∀ (a_11 a_12:List Int) (a_13:Int) (a_14 a_15:List Int) (a_16:Int),Ok a_11 a_12 a_13 a_14→(↑a_11.length:Int)≤5→v14.q1 a_4 a_3 u lo w q a a_11 a_12 a_13 a_14 a_15 a_16)) ((3:Int)≤5∧(5:Int)≤8∧∀ (a_7 a_8:List Int) (a_9:Int) (a_10 a_11:List Int) (a_12:Int),Ok a_7 a_8 a_9 a_10→(↑a_7.length:Int)≤5→v14.q1 a_4 a_3 u lo w q a a_7 a_8 a_9 a_10 a_11 a_12)) (∃ (a:List aO.den),∃ (a_7:List Int),∃ (a_8:Int),l=l∧lM aO.sl.den∧a_4=a∧a_5=a_7∧a_6=a_8∧u=u∧lo=lo∧w=w∧q=q∧a.length≤4∧(∀ (p:aO.den),p∈a→wq p)∧True))∧∀ (a:List aO.den) (a_1:List Int) (a_2:Int),a.length≤4→(∀ (p:aO.den),p∈a→wq p)→aG (decide (0<(↑a.length:Int))) (v14.q3 a (0:Int) 0 1 (cE (1:Int)∧(∃ (a_3:Nat),1=(↑a_3:Int)∧[((a.getD 0 ([],[],0,[],())).fst,(a.getD 0 ([],[],0,[],())).snd.fst,(a.getD 0 ([],[],0,[],())).snd.snd.fst,(a.getD 0 ([],[],0,[],())).snd.snd.snd.fst,())]=List.take a_3 a∧a_3≤a.length∧a.length-a_3<1000000)∧∀ (a_3:Nat),a_3≤a.length→aG (decide ((↑a_3:Int)<(↑a.length:Int))) (v14.q3 a (↑a_3:Int) a_3 ((List.take a_3 a).length+1) (cE ((↑a_3:Int)+1)∧∃ (a_4:Nat),a=a∧lM aO.den∧(↑a_3:Int)+1=(↑a_4:Int)∧a_1=a_1∧a_2=a_2∧u=u∧lo=lo∧w=w∧q=q∧List.take a_3 a++[((a.getD a_3 ([],[],0,[],())).fst,(a.getD a_3 ([],[],0,[],())).snd.fst,(a.getD a_3 ([],[],0,[],())).snd.snd.fst,(a.getD a_3 ([],[],0,[],())).snd.snd.snd.fst,())]=List.take a_4 a∧a_4≤a.length∧a.length-a_4<a.length-a_3)) (True∧aG (decide ((↑(List.take a_3 a).length:Int)>0)) (True∧cE ((↑(List.take a_3 a).length:Int)-1)∧(↑(List.take a_3 a).length:Int)-1≤1000∧(-10000:Int)≤(↑(List.take a_3 a).length:Int)-1∧∀ (a_4:Int) (a_5:List Int) (a_6:Int),0≤a_4→a_4≤(↑(List.take a_3 a).length:Int)-1∨a_4=0→(0≤a_4∧a_4<(↑(List.take a_3 a).length:Int))∧True∧v14.q2 l a ((List.take a_3 a).set a_4.toNat (u,lo,w,q,())) a_5 a_6) (v14.q2 l a (List.take a_3 a) a_1 a_2)))) (v14.q2 l a [] a_1 a_2)) (by kernel_rfl) ?_
 unfold v14.q3 v14.q2 v14.q1
 obtain⟨hl,hs,-⟩:=hp
 simp only[bL,acM,eq_self,true_and,and_true,cE,fE]
 refine⟨⟨by omega,by omega,fun k r z rT Lh=>⟨⟨k.toNat,[],r,z,rfl,by omega,rfl,rfl,by simp only[List.length_nil]; omega,by simp,by omega⟩,fun m l' r z hm ho=>⟨fun Bb=>⟨fun hl=>⟨by omega,by omega,fun b z1 r2 z2=>gY.2 ⟨fun _=>⟨⟨by omega,by omega⟩,by omega,by omega,fun i r3 z3 hi1 hi2=>⟨⟨by omega,by omega⟩,?_,fun u lo w q r4 z4 jF hu=>⟨by omega,⟨by omega,by omega⟩,m-1,_,_,_,rfl,by omega,rfl,rfl,by simp only[b9,List.length_singleton]; omega,F0 ho jF,by omega⟩⟩⟩,fun _=>⟨by omega,by omega,fun u lo w q r4 z4 jF hu=>⟨by omega,⟨by omega,by omega⟩,m-1,_,_,_,rfl,by omega,rfl,rfl,by simp only[b9,List.length_singleton]; omega,F0 ho jF,by omega⟩⟩⟩⟩,fun hl=>⟨by omega,by omega,fun u lo w q r4 z4 jF hu=>⟨by omega,⟨by omega,by omega⟩,m-1,_,_,_,rfl,by omega,rfl,rfl,by simp only[b9,List.length_singleton]; omega,F0 ho jF,by omega⟩⟩⟩,fun afH=>⟨_,_,_,rfl,rfl,rfl,by omega,ho⟩⟩⟩⟩,fun ps r z hps jF => ?_⟩
 ·rw[aN,bH (by omega)]; exact ho _ (mB _)
 have PB:∀ p∈ps,c9 p:=fun p hp=>BC (jF p hp)
 have fin:∀ X:List PD,X.length≤20→(∀ p∈X,c9 p)→∀ x∈[l,ps,X],sI x:=fun X h1 h2 x hx=>by
  simp only[bI,ep,or_false] at hx
  rcases hx with rfl | rfl | rfl
  ·exact hl
  ·exact⟨by omega,PB⟩
  ·exact⟨h1,h2⟩
 have tk:∀ i,i≤ps.length→(ps.take i).length≤20∧∀ p∈ps.take i,c9 p:=fun i hi=>⟨by rw[iD]; omega,fun p hp=>PB p (List.mem_of_mem_take hp)⟩
 refine⟨fun h0=>⟨⟨by omega,by omega⟩,cV (by omega) PB,by omega,⟨by omega,by omega⟩,⟨1,rfl,AO (i:=0) (by omega),by omega,by omega⟩,fun i hi=>⟨fun Nh=>⟨⟨by omega,by omega⟩,cV (by omega) PB,by rw[iD]; omega,⟨by omega,by omega⟩,i+1,by omega,AO (by omega),by omega,by omega⟩,fun Nh=>⟨fun hne=>⟨⟨by omega,by have:=(tk i hi).1; omega⟩,by rw[iD]; omega,by omega,fun k r2 z2 k1 k2=>⟨⟨by omega,by omega⟩,_,_,_,rfl,rfl,rfl,rfl,fin _ (by rw[List.length_set]; exact(tk i hi).1) fun p hp => ?_⟩⟩,fun hne=>⟨_,_,_,rfl,rfl,rfl,rfl,fin _ (tk i hi).1 (tk i hi).2⟩⟩⟩⟩,fun h0=>⟨_,_,_,rfl,rfl,rfl,rfl,fin [] (by decide) (by simp)⟩⟩
 rcases List.mem_or_eq_of_mem_set hp with h | rfl
 ·exact(tk i hi).2 p h
 ·exact hs
end Go.Tv
end
section
namespace Go.Tv
open Go Go.Di Go.Proofs
set_option maxRecDepth 100000
noncomputable def S1:gP:=(((((T6.cI 11 fun a=>dS (D18 a)).cI 16 fun a=>dS (aam a)).uJ 14 fun a c=>dS (D14 a c)).cI 17 fun a=>dS (NF a)).cI 18 fun a=>dS (NF a)).cI 19 fun a=>dS (ND a)
noncomputable def S2:gP:=(((((S1.cI 20 fun a=>dS (ND a)).cI 21 fun a=>dS (aal a)).cI 22 fun a=>dS (aak a)).cI 23 fun a=>dS (aaj a)).cI 24 fun a=>dS (aai a)).cI 25 fun a=>dS (aah a)
def D3:List TV→Dn
  | [.sl (.pair (.sl (.int .i64)) (.pair (.sl (.int .i64)) (.pair (.int .i64) (.pair (.sl (.int .i64)) .unit)))) _ .no,.agg [.sl (.int .i64) _ .no,.sl (.int .i64) _ .no,.val (.int .i64 _),.sl (.int .i64) _ .no],.val (.int .i64 _),.val (.int .i64 _),.sl (.int .i64) _ .no]=>some ([],.res (kC true) [] [],
     [(6,.dep fun te _=>Rc te 11 fun p => .ex (List Int) fun A => .ex (List Int) fun B => .ex (List Int) fun r => .ex Int fun z => .st { sl:=[(13,.sl bO A .no),(14,.sl bO B .no)],pl:=[(p,yd r z)],dm:=[A.length=3,B.length=3] }),
     (9,.ex Nat fun i => .st { sl:=[(15,bk i)],dm:=[i≤3],m:=3-i })])
  | _=>none
theorem Yi {l:List PD} (h:(decide (l.length≤20)&&l.all Jq)=true):sI l:=by
  simp only[aI,bJ,bt] at h
  exact⟨h.1,fun p hp=>aaR (h.2 p hp)⟩
theorem Qi {c:Bool} {A B:Prop} (h:c=true) (hB:B):aG (!c) A B:=by subst h; exact hB
theorem abv (l:List PD):(JB l).length≤1000∧∀ x∈JB l,x.length≤1000:=by
  unfold JB
  split
  · rename_i h
    have k:=(AX h).1
    refine⟨by have:=F9 (i:=l.length) k; omega,fun x hx => ?_⟩
    simp only[uz,List.mem_flatMap,vh,cR] at hx
    obtain⟨_,_,_,_,rfl⟩:=hx
    exact(by decide:2≤1000)
  · exact⟨gh _,by simp⟩
def v3.q1 (p0:Nat) (p1:List (List aO.den)) (p2:Nat) (p3:Prop):Prop:=(0≤(↑p0:Int)∧(↑p0:Int)<(↑p2:Int))∧List.length (p1.getD p0 [])≤1000∧(∀ (p:(aO).den),p∈p1.getD p0 []→c9 p)∧p3
theorem v3:VI S2 Tryz.f3 [some .bool] D3:=by
  refine eX fun a => ?_
  unfold D3
  split
  rotate_left
  · trivial
  rename_i l u lo w q na nb Dk
  intro hp
  refine qx (A:=∀ (a:Bool),a=(decide (l.length≤20)&&l.all Jq)→aG (!a) (true=true∧True) (∀ (a:Bool),a=(decide (1≤20)&&[(u,lo,w,q,())].all Jq)→aG (!a) (true=true∧True) (sI l∧Sh u lo q∧∀ (a:List (List aO.den)) (a_1:List Int) (a_2:Int),a.length=3→(∀ (x:List aO.den),x∈a→sI x)→((3:Int)≤1000∧(-10000:Int)≤3∧∀ (a_3:Int) (a_4:List Int) (a_5:Int),0≤a_3→a_3≤3∨a_3=0→(1:Int)≤1000∧(-10000:Int)≤1∧∀ (a_6:Int) (a_7:List Int) (a_8:Int),0≤a_6→a_6≤1∨a_6=0→(3:Int)≤1000∧(-10000:Int)≤3∧∀ (a_9:Int) (a_10:List Int) (a_11:Int),0≤a_9→a_9≤3∨a_9=0→∃ (a_12:List Int),∃ (a_13:List Int),∃ (a_14:List Int),∃ (a_15:Int),false=false∧a=a∧[na,a_3,a_6]=a_12∧[nb,a_9,(2:Int)]=a_13∧u=u∧lo=lo∧w=w∧q=q∧a_10=a_14∧a_11=a_15∧a_12.length=3∧a_13.length=3∧True)∧∀ (a_3 a_4 a_5:List Int) (a_6:Int),a_3.length=3→a_4.length=3→(∃ (a:Nat),0=(↑a:Int)∧a≤3∧3-a<1000000)∧∀ (a_7:Nat),a_7≤3→aG (decide ((↑a_7:Int)<(↑a.length:Int))) (v3.q1 a_7 a a.length ((0≤(↑a_7:Int)∧(↑a_7:Int)<(↑a_3.length:Int))∧v3.q1 a_7 a a_4.length (∀ (a_8:List gX.den) (a_9:Int),a_8=pS (a.getD a_7 []) (a_3.getD a_7 0) (a_4.getD a_7 0)→a_9=dn (a.getD a_7 []) (a_3.getD a_7 0) (a_4.getD a_7 0)→(0≤(↑a_7:Int)∧(↑a_7:Int)<(↑a.length:Int))∧(0≤(↑a_7:Int)∧(↑a_7:Int)<(↑a_3.length:Int))∧v3.q1 a_7 a a_4.length (∀ (a_10:List gX.den) (a_11:Int),a_10=pS (a.getD a_7 []) (a_3.getD a_7 0) (a_4.getD a_7 0)→a_11=dn (a.getD a_7 []) (a_3.getD a_7 0) (a_4.getD a_7 0)→(0≤(↑a_7:Int)∧(↑a_7:Int)<(↑a_3.length:Int))∧v3.q1 a_7 a a_4.length (∀ (a_12 a_13:Int),a_12=sr (a.getD a_7 []) (a_3.getD a_7 0) (a_4.getD a_7 0)→a_13=dn (a.getD a_7 []) (a_3.getD a_7 0) (a_4.getD a_7 0)→(0≤(↑a_7:Int)∧(↑a_7:Int)<(↑a.length:Int))∧(0≤(↑a_7:Int)∧(↑a_7:Int)<(↑a_3.length:Int))∧v3.q1 a_7 a a_4.length (∀ (a_14 a_15:Int),a_14=sr (a.getD a_7 []) (a_3.getD a_7 0) (a_4.getD a_7 0)→a_15=dn (a.getD a_7 []) (a_3.getD a_7 0) (a_4.getD a_7 0)→aG (a_9 !=a_11) (false=true∧True) (aG (a_13 !=a_15) (false=true∧True) (aG (a_12 !=a_14) (false=true∧True) (a_8.length≤1000∧a_10.length≤1000∧∀ (a_16:Bool),(a_16=true↔a_8=a_10)→aG (!a_16) (false=true∧True) (List.length (a.getD a_7 [])≤1000∧(∀ (p:(aO).den),p∈a.getD a_7 []→c9 p)∧∀ (a_17:List (List Int)) (a_18:Int),a_17=JB (a.getD a_7 [])→a_18=jg (a.getD a_7 [])→v3.q1 a_7 a a.length (∀ (a_19:List (List Int)) (a_20:Int),a_19=JB (a.getD a_7 [])→a_20=jg (a.getD a_7 [])→aG (a_18 !=a_20) (false=true∧True) (a_17.length≤1000∧a_19.length≤1000∧(∀ (x:bM.den),x∈a_17→List.length x≤1000)∧(∀ (x:bM.den),x∈a_19→List.length x≤1000)∧∀ (a_21:Bool),(a_21=true↔a_17=a_19)→aG (!a_21) (false=true∧True) ((0≤(↑a_7:Int)∧(↑a_7:Int)<(↑a.length:Int))∧List.length (a.getD a_7 [])≤1000∧List.length (a.getD a_7 [])≤1000∧(∀ (p:(aO).den),p∈a.getD a_7 []→c9 p)∧(∀ (p:(aO).den),p∈a.getD a_7 []→c9 p)∧∀ (a_22:Bool),(a_22=true↔a.getD a_7 []=a.getD a_7 [])→aG (!a_22) (false=true∧True) (cE ((↑a_7:Int)+1)∧∃ (a_23:Nat),a=a∧a_3=a_3∧a_4=a_4∧(↑a_7:Int)+1=(↑a_23:Int)∧u=u∧lo=lo∧w=w∧q=q∧a_5=a_5∧a_6=a_6∧a_23≤3∧3-a_23<3-a_7)))))))))))))) (true=true∧True)))) (by kernel_rfl) ?_
  unfold v3.q1
  intro b hb
  refine dR.2 (gY.2 ⟨fun e => ?_,fun _=>⟨rfl,trivial⟩⟩)
  rw[e] at hb
  clear e
  intro b2 DI
  refine dR.2 (gY.2 ⟨fun e => ?_,fun _=>⟨rfl,trivial⟩⟩)
  rw[e] at DI
  clear e
  have hs:Sh u lo q:=(Yi (l:=[pd u lo w q]) DI.symm).2 _ (bN.2 rfl)
  refine⟨Yi hb.symm,hs,fun all r z h1 h2=>⟨⟨by omega,by omega,fun x1 r1 z1 _ _=>⟨by omega,by omega,fun x2 r2 z2 _ _=>⟨by omega,by omega,fun x3 r3 z3 _ _=>⟨_,_,_,_,rfl,rfl,rfl,rfl,rfl,rfl,rfl,rfl,rfl,rfl,rfl,rfl,trivial⟩⟩⟩⟩,fun A B r1 z1 a1 a2=>⟨⟨0,rfl,by omega,by omega⟩,fun i hi=>bL.2 ⟨fun hlt => ?_,fun _=>⟨rfl,trivial⟩⟩⟩⟩⟩
  have hx:sI (all.getD i []):=F6 (by omega) h2
  have e1:(all.getD i []).length≤1000:=by have:=hx.1; omega
  have e2:(0:Int)≤(i:Int)∧(i:Int)<(all.length:Int):=⟨by omega,by omega⟩
  have e3:=hx.2
  have e4:(0:Int)≤(i:Int)∧(i:Int)<(A.length:Int):=⟨by omega,by omega⟩
  have e5:(0:Int)≤(i:Int)∧(i:Int)<(B.length:Int):=⟨by omega,by omega⟩
  have e6:(0:Int)≤((i:Nat):Int)+1:=by omega
  generalize all.getD i []=X at e1 e3 ⊢
  generalize A.getD i 0=x
  generalize B.getD i 0=y
  refine⟨e2,e1,e3,e4,e5,e1,e3,fun s e DG he=>⟨e2,e4,e5,e1,e3,fun t f ht hf=>⟨e4,e5,e1,e3,fun n g hn hg=>⟨e2,e4,e5,e1,e3,fun m h hm hh => ?_⟩⟩⟩⟩
  obtain rfl:s=t:=DG.trans ht.symm
  obtain rfl:e=f:=he.trans hf.symm
  obtain rfl:n=m:=hn.trans hm.symm
  obtain rfl:g=h:=hg.trans hh.symm
  have ls:s.length≤1000:=by rw[DG]; exact aS N0 (by decide)
  refine cC.2 ⟨fun _=>cC.2 ⟨fun _=>cC.2 ⟨fun _=>⟨ls,ls,fun b hb=>Qi (hb.2 rfl) ⟨e1,e3,fun d k hd hk=>⟨e2,e1,e3,fun d' k' Aw pK => ?_⟩⟩⟩,fun h=>(h rfl).elim⟩,fun h=>(h rfl).elim⟩,fun h=>(h rfl).elim⟩
  obtain rfl:d=d':=hd.trans Aw.symm
  obtain rfl:k=k':=hk.trans pK.symm
  obtain⟨l1,l2⟩:=abv X
  rw[← hd] at l1 l2
  exact cC.2 ⟨fun _=>⟨l1,l1,l2,l2,fun b hb=>Qi (hb.2 rfl) ⟨e2,e1,e1,e3,e3,fun b hb=>Qi (hb.2 rfl) ⟨⟨by omega,by omega⟩,i+1,rfl,rfl,rfl,rfl,rfl,rfl,rfl,rfl,rfl,rfl,by omega,by omega⟩⟩⟩,fun h=>(h rfl).elim⟩
end Go.Tv
end
section
namespace Go.Tv
open Go Go.Di Go.Proofs
section
variable {bG:bV} (tk:uK bG) (tu:Qg bG)
include tk
theorem aeJ:jT bG 2 H1:=kz tk (afd tk) (by decide) Tryz.func48 rfl v26 (fJ (eO tk) 2)
include tu
theorem aeI:jT bG 1 H2:=kz tk (QS tu (eO tk)) (by decide) Tryz.func42 rfl v20 (dX (QS tu (eO tk)))
theorem aeH:jT bG 6 H4:=X1 (X1 (kz tk (fJ (QS tu (eO tk)) 5) (by decide) Tryz.func42 rfl v20 (U8 tk)) Tryz.func26 rfl) Tryz.func16 rfl
end
end Go.Tv
end
section
namespace Go.Tv
open Go Go.Di Go.Proofs
section
variable {bG:bV} (tk:uK bG) (tr:JO bG) (ts:Z8 bG) (tu:Qg bG)
theorem YP {T:gP} {k:Nat} (ts:Z8 bG) (hT:jT bG k T):jT bG k (T.cI 60 S60):=Lz hT fun n a p s hs hp=>by
 unfold S60 at hs
 split at hs
 ·cases hs
  obtain⟨o1,o2,rfl,rfl,rfl,rfl,rfl,rfl,rfl,rfl,rfl,rfl,rfl,rfl,rfl,rfl,rfl,rfl,-⟩:=hp
  intro cZ hd
  obtain⟨d1,_,rfl,h1,h2⟩:=aj hd
  obtain⟨d2,_,rfl,h2,h3⟩:=aj h2
  rw[aU h3]
  obtain⟨r,k1,k2,k3⟩:=ts.X4 _ _ _ _ _ _ _ _ d1 d2 o1 o2 h1 h2
  exact⟨r,_,by simp only[Ah,kS,k1,k2,if_true],k2,k3,rfl,rfl,trivial⟩
 ·cases hs
include tk
theorem PX:jT bG 7 Q0:=kz tk (U8 tk) (by decide) Tryz.func50 rfl ad4 (dX (U8 tk))
theorem PW:jT bG 4 Q1:=kz tk (Vw tk) (by decide) Tryz.func51 rfl v51 (dX (Vw tk))
theorem abS:jT bG 5 Q3:=kz tk (afe tk) (by decide) Tryz.func109 rfl v66 (kz tk (fJ (Vb tk) 3) (by decide) Tryz.func81 rfl v16 (fJ (eO tk) 5))
theorem aeo:jT bG 6 Q4:=kz tk (abS tk) (by decide) Tryz.func63 rfl vo (kz tk (dX (PW tk)) (by decide) Tryz.func62 rfl abO (fJ (PW tk) 2))
theorem abR:jT bG 6 Q6:=kz tk (fJ (eO tk) 5) (by decide) Tryz.func111 rfl Np (kz tk (abS tk) (by decide) Tryz.func63 rfl vo (fJ (eO tk) 6))
theorem aem:jT bG 7 Q7:=kz tk (abR tk) (by decide) Tryz.func65 rfl qA (kz tk (fJ (PW tk) 2) (by decide) Tryz.func62 rfl abO (fJ (PW tk) 3))
theorem ael:jT bG 1 Q8:=kz tk (eO tk) (by decide) Tryz.func49 rfl v25 (dX (eO tk))
theorem ac8:jT bG 7 Q11:=kz tk (abR tk) (by decide) Tryz.func65 rfl qA (fJ (PW tk) 3)
include tr
theorem aek:jT bG 3 Q9:=kz tk (PU tk tr) (by decide) Tryz.func61 rfl v50 (dX (PU tk tr))
include ts
theorem acB:jT bG 1 F1:=have _:=tr; YP ts (kz tk (eO tk) (by decide) Tryz.func110 rfl v56 (dX (eO tk)))
theorem aep:jT bG 8 Q2:=YP ts (kz tk (fJ (PU tk tr) 5) (by decide) Tryz.func61 rfl v50 (kz tk (PX tk) (by decide) Tryz.func59 rfl abP (dX (PX tk))))
theorem aen:jT bG 8 Q5:=kz tk (fJ (acB tk tr ts) 6) (by decide) Tryz.func64 rfl v31 (kz tk (fJ (PU tk tr) 5) (by decide) Tryz.func61 rfl v50 (kz tk (PX tk) (by decide) Tryz.func59 rfl abP (dX (PX tk))))
theorem ac9:jT bG 7 Q10:=kz tk (fJ (acB tk tr ts) 5) (by decide) Tryz.func64 rfl v31 (kz tk (fJ (aek tk tr) 3) (by decide) Tryz.func66 rfl ad3 (PX tk))
include tu
theorem aeg:jT bG 9 S1:=kz tk (aen tk tr ts) (by decide) Tryz.func19 rfl mQ (kz tk (fJ (aeo tk) 2) (by decide) Tryz.func18 rfl PS (kz tk (aep tk tr ts) (by decide) Tryz.func17 rfl mR (M9 (dX (aeH tk tu)) Tryz.func14 rfl v14 (kz tk (fJ (aeI tk tu) 7) (by decide) Tryz.func16 rfl PT (kz tk (fJ (eO tk) 8) (by decide) Tryz.func11 rfl v18 (fJ (U8 tk) 3))))))
theorem aef:jT bG 9 S2:=kz tk (fJ (aeJ tk) 6) (by decide) Tryz.func25 rfl ad5 (kz tk (fJ (ael tk) 7) (by decide) Tryz.func24 rfl ad6 (kz tk (dX (ac8 tk)) (by decide) Tryz.func23 rfl E6 (kz tk (dX (ac9 tk tr ts)) (by decide) Tryz.func22 rfl x8 (kz tk (fJ (eO tk) 8) (by decide) Tryz.func21 rfl ad7 (kz tk (dX (aem tk)) (by decide) Tryz.func20 rfl PR (aeg tk tr ts tu))))))
end
end Go.Tv
end
