import Derived.Test.YtedcgbkilmlbhaaGreatPk11
import Derived.Test.YtedcgbkilmlbhaaGreatPk12
section
namespace Go.Tv
open Go Go.Di Go.Proofs
set_option maxRecDepth 100000
def D86:List TV→Dn
  | [.val (.int .i64 n),.val (.int .i64 w)]=>some ([0≤w,w≤1],.ex Int fun e => .res (bg e) [] [e=if n=1∨n=3 then 1-w else w],[])
  | _=>none
theorem v86:VI T0 Tryz.f86 [some cv] D86:=by
  refine fF fun a => ?_
  unfold D86
  split
  rotate_left
  · trivial
  rename_i n w
  intro hp
  refine tH (A:=ay (n==1) (cn ((1:Int)-w)∧∃ (a:Int),(1:Int)-w=a∧(a=if n=1∨n=3 then (1:Int)-w else w)∧True) (ay (n==3) (cn ((1:Int)-w)∧∃ (a:Int),(1:Int)-w=a∧(a=if n=1∨n=3 then (1:Int)-w else w)∧True) (∃ (a:Int),w=a∧(a=if n=1∨n=3 then (1:Int)-w else w)∧True))) (by kernel_rfl) ?_
  obtain⟨h1,h2,-⟩:=hp
  simp only[iG,and_true,cn,dX,beq_eq_false_iff_ne,ne_eq]
  exact⟨fun h=>⟨by omega,_,rfl,(if_pos (.inl h)).symm⟩,fun h=>⟨fun k=>⟨by omega,_,rfl,(if_pos (.inr k)).symm⟩,fun k=>⟨_,rfl,(if_neg fun c=>c.elim h k).symm⟩⟩⟩
def eg (n w:Int):Int:=if n=1∨n=3 then 1-w else w
def mk1 (U:List Int) (a b:Nat) (s:nD):List Int:=(U.set (2*a+(eg s.1 1).toNat) 1).set (2*b+(eg s.2.1 0).toNat) 1
def ES (l:List PD) (U:List Int) (a b k:Nat):List Int:=((ct (l.getD a dP) (l.getD b dP)).take k).foldl (fun U s=>mk1 U a b s) U
def wv (l:List PD) (U:List Int) (a b:Nat):List Int:=(List.range b).foldl (fun U b=>if a=b then U else ES l U a b (ct (l.getD a dP) (l.getD b dP)).length) U
def mR (l:List PD) (a:Nat):List Int:=(List.range a).foldl (fun U a=>wv l U a l.length) (List.replicate (2*l.length) 0)
def qG (U:List Int) (i:Nat):List (List Int):=((List.range i).filter fun j=>decide (U.getD j 0=0)).map fun(j:Nat)=>[((j / 2:Nat):Int),((j % 2:Nat):Int)]
def HM (l:List PD):List (List Int):=if iC l=0 then qG (mR l l.length) (2*l.length) else []
section
variable {l:List PD} {U:List Int} {a b k:Nat}
theorem Gj:wv l (mR l a) a l.length=mR l (a+1):=by rw[mR,mR,fN,List.foldl_append]; rfl
theorem KE (h:a=k):wv l U a k=wv l U a (k+1):=by rw[wv,wv,fN,List.foldl_append,List.foldl_cons,List.foldl_nil,if_pos h]
theorem Ph (h:a≠k):ES l (wv l U a k) a k (ct (l.getD a dP) (l.getD k dP)).length=wv l U a (k+1):=by rw[wv,wv,fN,List.foldl_append,List.foldl_cons,List.foldl_nil,if_neg h]
theorem Gi (d:nD) (h:k<(ct (l.getD a dP) (l.getD b dP)).length):mk1 (ES l U a b k) a b ((ct (l.getD a dP) (l.getD b dP)).getD k d)=ES l U a b (k+1):=by
  rw[ES,ES,jB d h,List.foldl_append]; rfl
theorem K0 (h:U.getD k 0=0):qG U k++[[((k / 2:Nat):Int),((k % 2:Nat):Int)]]=qG U (k+1):=by
  rw[qG,qG,fN,og,gM,List.filter_cons,if_pos (fM h)]
  rfl
theorem PF (h:¬ U.getD k 0=0):qG U k=qG U (k+1):=by
  rw[qG,qG,fN,og,gM,List.filter_cons,if_neg (by simp only[bI]; exact h)]
  simp
theorem Ew:(qG U k).length≤k:=by
  rw[qG,gp]
  refine aM (pY _ _) ?_
  simp
theorem acy (h:k≤1000000):IntKind.i64.wrap ((k:Int).tdiv 2)=((k / 2:Nat):Int):=by
  have e:(k:Int).tdiv 2=((k / 2:Nat):Int):=by rw[Int.tdiv_eq_ediv_of_nonneg (by omega)]; omega
  rw[e,wH]<;>omega
theorem Lr:(k:Int).tmod 2=((k % 2:Nat):Int):=by rw[Int.tmod_eq_emod_of_nonneg (by omega)]; omega
end
def JC (te:List TV) (tS:List TB) (i:Nat) (k:Nat→List Int→LA):LA :=
  match te.getD i .unk with
  | .so g _=>match tS.getD g .none with
    | .rows (.int .i64) _ l _=>k g l
    | _ => .un 0
  | _ => .un 0
def P3:gd:=(Q1.cA 63 fun a=>dS (XV a)).cA 86 fun a=>dS (D86 a)
def D38:List TV→Dn
  | [.sl (.pair (.sl (.int .i64)) (.pair (.sl (.int .i64)) (.pair (.int .i64) (.pair (.sl (.int .i64)) .unit)))) l .no]=>some ([l.length≤1000,∀ p∈l,dD p],.ex (List (List Int)) fun x => .ex Int fun e => .res (.gI [.sl bG x .no,bg e]) [] [x=HM l,e=iC l],
    [(8,.dep fun te tS=>JC te tS 5 fun g _ => .ex Nat fun i => .ex (List Int) fun U => .st { sl:=[(6,bg i)],mp:=[(g,⟨cv,U⟩)],cB:=[i≤l.length,U=mR l i,U.length=2*l.length],m:=l.length-i }),
     (13,.dep fun te tS=>JC te tS 5 fun g U0=>jx te 6 fun i => .ex Nat fun k => .ex (List Int) fun U => .st { sl:=[(7,bg k)],mp:=[(g,⟨cv,U⟩)],cB:=[k≤l.length,U=wv l U0 i k,U.length=2*l.length],m:=l.length-k }),
     (21,.dep fun te tS=>JC te tS 5 fun g U0=>jx te 6 fun i=>jx te 7 fun k => .ex Nat fun j => .ex (List Int) fun U => .st { sl:=[(9,bg j)],mp:=[(g,⟨cv,U⟩)],cB:=[j≤(ct (l.getD i dP) (l.getD k dP)).length,U=ES l U0 i k j,U.length=2*l.length],m:=(ct (l.getD i dP) (l.getD k dP)).length-j }),
     (29,.dep fun te tS=>JC te tS 5 fun g U => .ex Nat fun i => .st { sl:=[(10,.sl bG (qG U i) (.nQ tS.length)),(11,bg i)],own:=[(23,1)],cB:=[i≤2*l.length],m:=2*l.length-i })])
  | _=>none
def v38.q1 (p0:List (aK).den) (p1 p2:Nat) (p3:Prop):Prop:=ct (pd (p0.getD p1 ([],[],0,[],())).1 (p0.getD p1 ([],[],0,[],())).2.1 (p0.getD p1 ([],[],0,[],())).2.2.1 (p0.getD p1 ([],[],0,[],())).2.2.2.1) (pd (p0.getD p2 ([],[],0,[],())).1 (p0.getD p2 ([],[],0,[],())).2.1 (p0.getD p2 ([],[],0,[],())).2.2.1 (p0.getD p2 ([],[],0,[],())).2.2.2.1)=ct (pd (p0.getD p1 ([],[],0,[],())).1 (p0.getD p1 ([],[],0,[],())).2.1 (p0.getD p1 ([],[],0,[],())).2.2.1 (p0.getD p1 ([],[],0,[],())).2.2.2.1) (pd (p0.getD p2 ([],[],0,[],())).1 (p0.getD p2 ([],[],0,[],())).2.1 (p0.getD p2 ([],[],0,[],())).2.2.1 (p0.getD p2 ([],[],0,[],())).2.2.2.1)∧p3
def v38.q2 (p0:List (aK).den) (p1:Nat) (p2:Prop):Prop:=p0=p0∧(↑p1:Int)=(↑p1:Int)∧p0=p0∧p1=p1∧0=0∧(p0.getD p1 ([],[],0,[],())).1=(p0.getD p1 ([],[],0,[],())).1∧(p0.getD p1 ([],[],0,[],())).2.1=(p0.getD p1 ([],[],0,[],())).2.1∧(p0.getD p1 ([],[],0,[],())).2.2.1=(p0.getD p1 ([],[],0,[],())).2.2.1∧(p0.getD p1 ([],[],0,[],())).2.2.2.1=(p0.getD p1 ([],[],0,[],())).2.2.2.1∧p2
def v38.q3 (p0:Nat) (p1:List (aK).den) (p2 p3 p4:Nat) (p5:Int) (p6:Prop):Prop:=cn ((2:Int)*(↑p4:Int))∧(0≤(↑p0:Int)∧(↑p0:Int)<(↑(ct (pd (p1.getD p2 ([],[],0,[],())).1 (p1.getD p2 ([],[],0,[],())).2.1 (p1.getD p2 ([],[],0,[],())).2.2.1 (p1.getD p2 ([],[],0,[],())).2.2.2.1) (pd (p1.getD p3 ([],[],0,[],())).1 (p1.getD p3 ([],[],0,[],())).2.1 (p1.getD p3 ([],[],0,[],())).2.2.1 (p1.getD p3 ([],[],0,[],())).2.2.2.1)).length:Int))∧0≤p5∧p5≤1∧p6
def v38.q4 (p0:List (aK).den) (p1 p2:Nat) (p3 p4:List Int) (p5:Nat):Prop:=p1≤p2∧p3=p4∧p3.length=2*p0.length∧p2-p1<p5
def v38.q5 (p0:Nat) (p1:List (aK).den) (p2:Nat) (p3 p4:List Int):Prop:=cn ((↑p0:Int)+1)∧∃ (a:Nat),∃ (x:List Int),p1=p1∧iu bG.den∧(0:Int)=0∧(↑p2:Int)=(↑p2:Int)∧(↑p0:Int)+1=(↑a:Int)∧(↑p2:Int)=(↑p2:Int)∧p1=p1∧(↑p1.length:Int)=(↑p1.length:Int)∧true=true∧p4=x∧v38.q4 p1 a p1.length x (wv p1 p3 p2 a) (p1.length-p0)
def v38.q6 (p0:List (aK).den) (p1:Nat):Prop:=Ok (p0.getD p1 ([],[],0,[],())).1 (p0.getD p1 ([],[],0,[],())).2.1 (p0.getD p1 ([],[],0,[],())).2.2.1 (p0.getD p1 ([],[],0,[],())).2.2.2.1
theorem v38:VI P3 Tryz.f38 [some (.sl bG),some cv] D38:=by
  refine fF fun a => ?_
  unfold D38
  split
  rotate_left
  · trivial
  rename_i l
  intro hp
  refine tH (A:=l.length≤1000∧(∀ (p:(aK).den),p∈l→dD p)∧ay (iC l !=0) (∃ (a:List (List Int)),∃ (y:Int),[]=a∧iC l=y∧a=HM l∧y=iC l∧True) (cn ((2:Int)*(↑l.length:Int))∧((2:Int)*(↑l.length:Int)=2*(↑l.length:Int)∧(0:Int)≤2*(↑l.length:Int)∧(2:Int)*(↑l.length:Int)≤1000000000)∧(∃ (a:Nat),∃ (y:List Int),0=(↑a:Int)∧List.replicate ((2:Int)*(↑l.length:Int)).toNat 0=y∧v38.q4 l a l.length y (mR l a) 1000000)∧∀ (a:Nat) (y:List Int),a≤l.length→y=mR l a→y.length=2*l.length→ay (decide ((↑a:Int)<(↑l.length:Int))) ((∃ (x:Nat),∃ (u:List Int),0=(↑x:Int)∧y=u∧v38.q4 l x l.length u (wv l y a x) 1000000)∧∀ (x:Nat) (u:List Int),x≤l.length→u=wv l y a x→u.length=2*l.length→ay (decide ((↑x:Int)<(↑l.length:Int))) (ay ((↑a:Int)==(↑x:Int)) (v38.q5 x l a y u) ((0≤(↑a:Int)∧(↑a:Int)<(↑l.length:Int))∧(0≤(↑x:Int)∧(↑x:Int)<(↑l.length:Int))∧v38.q6 l a∧v38.q6 l x∧(∃ (z:Nat),∃ (v:List Int),0=(↑z:Int)∧u=v∧v38.q4 l z (ct (l.getD a dP) (l.getD x dP)).length v (ES l u a x z) 1000000)∧∀ (z:Nat) (v:List Int),z≤(ct (l.getD a dP) (l.getD x dP)).length→v=ES l u a x z→v.length=2*l.length→ay (decide ((↑z:Int)<(↑(ct (pd (l.getD a ([],[],0,[],())).1 (l.getD a ([],[],0,[],())).2.1 (l.getD a ([],[],0,[],())).2.2.1 (l.getD a ([],[],0,[],())).2.2.2.1) (pd (l.getD x ([],[],0,[],())).1 (l.getD x ([],[],0,[],())).2.1 (l.getD x ([],[],0,[],())).2.2.1 (l.getD x ([],[],0,[],())).2.2.2.1)).length:Int))) (v38.q3 z l a x a (1:Int) (∀ (w:Int),(w=if ((ct (pd (l.getD a ([],[],0,[],())).1 (l.getD a ([],[],0,[],())).2.1 (l.getD a ([],[],0,[],())).2.2.1 (l.getD a ([],[],0,[],())).2.2.2.1) (pd (l.getD x ([],[],0,[],())).1 (l.getD x ([],[],0,[],())).2.1 (l.getD x ([],[],0,[],())).2.2.1 (l.getD x ([],[],0,[],())).2.2.2.1)).getD z (0,0,0,())).1=1∨((ct (pd (l.getD a ([],[],0,[],())).1 (l.getD a ([],[],0,[],())).2.1 (l.getD a ([],[],0,[],())).2.2.1 (l.getD a ([],[],0,[],())).2.2.2.1) (pd (l.getD x ([],[],0,[],())).1 (l.getD x ([],[],0,[],())).2.1 (l.getD x ([],[],0,[],())).2.2.1 (l.getD x ([],[],0,[],())).2.2.2.1)).getD z (0,0,0,())).1=3 then (0:Int) else (1:Int))→cn ((2:Int)*(↑a:Int)+w)∧((0:Int)≤2*(↑a:Int)+w∧(2:Int)*(↑a:Int)+w<(↑v.length:Int))∧True∧v38.q3 z l a x x (0:Int) (∀ (r:Int),(r=if ((ct (pd (l.getD a ([],[],0,[],())).1 (l.getD a ([],[],0,[],())).2.1 (l.getD a ([],[],0,[],())).2.2.1 (l.getD a ([],[],0,[],())).2.2.2.1) (pd (l.getD x ([],[],0,[],())).1 (l.getD x ([],[],0,[],())).2.1 (l.getD x ([],[],0,[],())).2.2.1 (l.getD x ([],[],0,[],())).2.2.2.1)).getD z (0,0,0,())).2.1=1∨((ct (pd (l.getD a ([],[],0,[],())).1 (l.getD a ([],[],0,[],())).2.1 (l.getD a ([],[],0,[],())).2.2.1 (l.getD a ([],[],0,[],())).2.2.2.1) (pd (l.getD x ([],[],0,[],())).1 (l.getD x ([],[],0,[],())).2.1 (l.getD x ([],[],0,[],())).2.2.1 (l.getD x ([],[],0,[],())).2.2.2.1)).getD z (0,0,0,())).2.1=3 then (1:Int) else (0:Int))→cn ((2:Int)*(↑x:Int)+r)∧((0:Int)≤2*(↑x:Int)+r∧(2:Int)*(↑x:Int)+r<(↑(v.set ((2:Int)*(↑a:Int)+w).toNat (1:Int)).length:Int))∧True∧cn ((↑z:Int)+1)∧∃ (s:Nat),∃ (t:List Int),l=l∧iu bG.den∧(0:Int)=0∧(↑a:Int)=(↑a:Int)∧(↑x:Int)=(↑x:Int)∧v38.q1 l a x ((↑z:Int)+1=(↑s:Int)∧(↑a:Int)=(↑a:Int)∧l=l∧(↑l.length:Int)=(↑l.length:Int)∧true=true∧(↑x:Int)=(↑x:Int)∧l=l∧(↑l.length:Int)=(↑l.length:Int)∧true=true∧(↑a:Int)=(↑a:Int)∧(↑x:Int)=(↑x:Int)∧false=false∧v38.q2 l a (v38.q2 l x (v38.q1 l a x ((v.set ((2:Int)*(↑a:Int)+w).toNat (1:Int)).set ((2:Int)*(↑x:Int)+r).toNat 1=t∧v38.q4 l s (ct (l.getD a dP) (l.getD x dP)).length t (ES l u a x s) ((ct (l.getD a dP) (l.getD x dP)).length-z)))))))) (v38.q5 x l a y v))) (cn ((↑a:Int)+1)∧∃ (z:Nat),∃ (v:List Int),l=l∧iu bG.den∧(0:Int)=0∧(↑a:Int)+1=(↑z:Int)∧u=v∧v38.q4 l z l.length v (mR l z) (l.length-a))) ((∃ (a:Nat),[]=qG y a∧0=(↑a:Int)∧a≤2*l.length∧2*l.length-a<1000000)∧∀ (a:Nat),a≤2*l.length→True∧ay (decide ((↑a:Int)<(↑y.length:Int))) ((0≤(↑a:Int)∧(↑a:Int)<(↑y.length:Int))∧True∧ay (y.getD a 0==0) ((qG y a).length+1≤1000000000∧cn ((↑a:Int)+1)∧∃ (x:Nat),iu bG.den∧(0:Int)=0∧qG y a++[[IntKind.i64.wrap ((↑a:Int).tdiv (2:Int)),(↑a:Int).tmod (2:Int)]]=qG y x∧(↑a:Int)+1=(↑x:Int)∧y=y∧x≤2*l.length∧2*l.length-x<2*l.length-a) (cn ((↑a:Int)+1)∧∃ (x:Nat),iu bG.den∧(0:Int)=0∧qG y a=qG y x∧(↑a:Int)+1=(↑x:Int)∧y=y∧x≤2*l.length∧2*l.length-x<2*l.length-a)) (∃ (x:List (List Int)),∃ (u:Int),qG y a=x∧0=u∧x=HM l∧u=iC l∧True)))) (by kernel_rfl) ?_
  unfold v38.q6 v38.q5 v38.q4 v38.q3 v38.q2 v38.q1
  obtain⟨h1,h2,-⟩:=hp
  change List PD at l
  simp only[cF,cZ,bR,eq_self,true_and,and_true,eO,cn]
  refine⟨h1,h2,fun e0 => ?_,fun e1=>⟨[],_,rfl,rfl,by rw[HM,if_neg e1],rfl⟩⟩
  obtain⟨k1,k2⟩:=zk e0
  refine⟨⟨by omega,by omega⟩,⟨by omega,by omega⟩,⟨0,_,rfl,rfl,by omega,by rw[show (2*(l.length:Int)).toNat=2*l.length by omega]; rfl,by rw[List.length_replicate]; omega,by omega⟩,fun i U hi hU hn=>⟨fun EU=>⟨⟨0,U,rfl,rfl,by omega,rfl,hn,by omega⟩,fun k V hk hV hm=>⟨fun oI=>⟨fun e => ?_,fun e => ?_⟩,fun oI => ?_⟩⟩,fun EU=>⟨⟨0,rfl,rfl,by omega,by omega⟩,fun k hk=>⟨fun oI => ?_,fun oI => ?_⟩⟩⟩⟩
  · exact⟨⟨by omega,by omega⟩,k+1,V,by omega,rfl,by omega,by rw[hV]; exact KE (by omega),hm,by omega⟩
  · have o1:s8 (l.getD i dP):=eA (by omega) k2
    have o2:s8 (l.getD k dP):=eA (by omega) k2
    have sl:=CC o1 o2
    refine⟨⟨by omega,by omega⟩,⟨by omega,by omega⟩,o1,o2,⟨0,V,rfl,rfl,by omega,rfl,hm,by omega⟩,fun j W hj hW hw=>⟨fun oJ => ?_,fun oJ => ?_⟩⟩
    · have oJ:j<(ct (l.getD i dP) (l.getD k dP)).length:=Int.ofNat_lt.1 oJ
      refine⟨⟨by omega,by omega⟩,⟨by omega,Int.ofNat_lt.2 oJ⟩,by omega,by omega,fun x hx => ?_⟩
      have x0:0≤x∧x≤1:=by rw[hx]; split<;>omega
      refine⟨⟨by omega,by omega⟩,⟨by omega,by omega⟩,⟨by omega,by omega⟩,⟨by omega,Int.ofNat_lt.2 oJ⟩,by omega,by omega,fun y hy => ?_⟩
      have y0:0≤y∧y≤1:=by rw[hy]; split<;>omega
      refine⟨⟨by omega,by omega⟩,⟨by omega,by rw[List.length_set]; omega⟩,⟨by omega,by omega⟩,j+1,_,by omega,rfl,by omega,?_,by rw[List.length_set,List.length_set]; exact hw,by omega⟩
      rw[← Gi (0,0,0,()) oJ,← hW,mk1,show (2*(i:Int)+x).toNat=2*i+x.toNat by omega,show (2*(k:Int)+y).toNat=2*k+y.toNat by omega,hx,hy]
      rfl
    · have oJ:¬ j<(ct (l.getD i dP) (l.getD k dP)).length:=fun h=>oJ (Int.ofNat_lt.2 h)
      refine⟨⟨by omega,by omega⟩,k+1,W,by omega,rfl,by omega,?_,hw,by omega⟩
      rw[hW,show j=(ct (l.getD i dP) (l.getD k dP)).length by omega,hV]
      exact Ph (by omega)
  · refine⟨⟨by omega,by omega⟩,i+1,V,by omega,rfl,by omega,?_,hm,by omega⟩
    rw[hV,hU,show k=l.length by omega]
    exact Gj
  · have bl:=Ew (U:=U) (k:=k)
    rw[acy (by omega),Lr]
    refine⟨⟨by omega,by omega⟩,fun c=>⟨by omega,⟨by omega,by omega⟩,k+1,K0 c,by omega,by omega,by omega⟩,fun c=>⟨⟨by omega,by omega⟩,k+1,PF c,by omega,by omega,by omega⟩⟩
  · refine⟨_,_,rfl,rfl,?_,e0.symm⟩
    rw[HM,if_pos e0,hU,show i=l.length by omega,show k=2*l.length by omega]
end Go.Tv
end
section
namespace Go.Tv
open Go Go.Di Go.Proofs
set_option maxRecDepth 100000
def E6 (l:List PD) (g:Nat→Bool) (U:List Int):Prop:=U.length=2*l.length∧∀ j,j<8→(g j=false↔U.getD j 0=0)
abbrev SZ (g:Nat→Bool):List TV:=[iy (g 0),iy (g 1),iy (g 2),iy (g 3),iy (g 4),iy (g 5),iy (g 6),iy (g 7)]
section
variable {l:List PD} {g:Nat→Bool} {U:List Int} {m M k:Nat} {n:Int}
def up (g:Nat→Bool) (M:Nat):Nat→Bool:=fun j=>decide (j=M)||g j
theorem mC (h:E6 l g U) (hM:m=M) (hl:M<2*l.length):E6 l (up g M) (U.set m 1):=by
  subst hM
  refine⟨by rw[List.length_set]; exact h.1,fun j hj => ?_⟩
  have:=h.2 j hj
  unfold up
  by_cases e:j=m
  · subst e
    rw[aL,List.getElem?_set_self (by rw[h.1]; exact hl)]
    simp
  · rw[aL,List.getElem?_set_ne (fun h=>e h.symm),← aL]
    simp[e,this]
theorem QY:E6 l (fun _=>false) (mR l 0):=by
  refine⟨List.length_replicate,fun j _ => ?_⟩
  show _↔(List.replicate (2*l.length) (0:Int)).getD j 0=0
  rw[aL,mN]
  split<;>simp
theorem Iw (h0:0≤n) (h1:n≤3):DD n 1=eg n 0∧(1-DD n 1=eg n 1)∧(eg n 0=0∨eg n 0=1):=by
  have:n=0∨n=1∨n=2∨n=3:=by omega
  rcases this with rfl | rfl | rfl | rfl<;>decide
theorem LZ {p q:PD} (h1:s8 p) (h2:s8 q) (h:k<(ct p q).length):(0≤((ct p q).getD k (0,0,0,())).1∧((ct p q).getD k (0,0,0,())).1≤3)∧0≤((ct p q).getD k (0,0,0,())).2.1∧((ct p q).getD k (0,0,0,())).2.1≤3:=by
  have hm:(ct p q).getD k (0,0,0,())∈ct p q:=by
    rw[aL,bK h]; exact mJ _
  revert hm
  generalize (ct p q).getD k (0,0,0,())=x
  intro hm
  simp only[ct,bp,List.mem_flatMap,eF] at hm
  obtain⟨a,ha,b,hb,s,-,rfl⟩:=hm
  exact⟨h1.B5 a ha,h2.B5 b hb⟩
theorem OZ {d:jP.den} (h:k<l.length):(l.map Hx).getD k d=Hx (l.getD k dP):=by
  rw[aL,fQ,bK h,aL,bK h]; rfl
theorem br4 {x:Nat} {A B C D:Prop} (h:x<4) (a:x=0→A) (b:x=1→B) (c:x=2→C) (d:x=3→D):((x:Int)=0→A)∧(¬ (x:Int)=0→((x:Int)=1→B)∧(¬ (x:Int)=1→((x:Int)=2→C)∧(¬ (x:Int)=2→((x:Int)=3→D)∧(¬ (x:Int)=3→False)))) :=
  ⟨fun e=>a (by omega),fun e0=>⟨fun e=>b (by omega),fun e1=>⟨fun e=>c (by omega),fun e2=>⟨fun e=>d (by omega),fun e3=>by omega⟩⟩⟩⟩
theorem Np {y:Int} {A B:Prop} (h:y=0∨y=1) (a:y=0→A) (b:y=1→B):(y=0→A)∧(¬ y=0→(y=1→B)∧(¬ y=1→False)):=⟨a,fun e=>⟨b,fun d=>h.elim e d⟩⟩
end
noncomputable def P4:gd:=((Q0.cA 66 fun a=>dS (XU a)).cA 60 S60)
def D37:List TV→Dn
  | [.sl (.pair (.sl (.int .i64)) (.pair (.sl (.int .i64)) (.pair (.int .i64) (.pair (.sl (.int .i64)) .unit)))) l .no]=>some ([l.length≤1000,∀ p∈l,dD p],.ex (List (List Int)) fun x => .ex Int fun e => .res (.gI [.sl bG x .no,bg e]) [] [x=HM l,e=iC l],
    [(6,.ex (List jP.den) fun W => .st { sl:=[(6,.sl jP W .no)],cB:=[W=l.map Hx] }),
     (22,.dep fun te _=>jx te 7 fun i=>jx te 8 fun k => .ex (List nD) fun s => .st { sl:=[(42,.sl jQ s .no),(43,bg s.length),(44,bg 0)],cB:=[s=ct (l.getD i dP) (l.getD k dP)] }),
     (9,.ex Nat fun i => .ex (Nat→Bool) fun g => .st { sl:=[(23,bg i)],pl:=[(0,SZ g)],cB:=[i≤l.length,E6 l g (mR l i)],m:=l.length-i }),
     (15,.dep fun te _=>jx te 7 fun i => .ex Nat fun k => .ex (Nat→Bool) fun g => .st { sl:=[(28,bg k)],pl:=[(0,SZ g)],cB:=[k≤l.length,E6 l g (wv l (mR l i) i k)],m:=l.length-k }),
     (23,.dep fun te _=>jx te 7 fun i=>jx te 8 fun k => .ex Nat fun j => .ex (Nat→Bool) fun g => .st { sl:=[(44,bg j)],pl:=[(0,SZ g)],cB:=[j≤(ct (l.getD i dP) (l.getD k dP)).length,E6 l g (ES l (wv l (mR l i) i k) i k j)],m:=(ct (l.getD i dP) (l.getD k dP)).length-j }),
     (28,.dep fun te _=>jx te 7 fun i=>jx te 8 fun k=>jx te 44 fun j => .ex (Nat→Bool) fun g => .st { sl:=[],pl:=[(0,SZ g)],cB:=[E6 l g ((ES l (wv l (mR l i) i k) i k j).set (2*i+(eg ((ct (l.getD i dP) (l.getD k dP)).getD j (0,0,0,())).1 1).toNat) 1)] }),
     (32,.dep fun _ tS => .ex Nat fun i => .st { sl:=[(11,.sl bG (qG (mR l l.length) (2*i)) (.nQ tS.length)),(66,bg i)],own:=[(23,1)],cB:=[i≤l.length],m:=l.length-i }),
     (38,.dep fun te tS=>jx te 12 fun i => .ex Nat fun k => .st { sl:=[(11,.sl bG (qG (mR l l.length) (2*i+k)) (.nQ (tS.length-1))),(69,bg k)],cB:=[k≤2],m:=2-k }),
     (43,.dep fun te _=>jx te 12 fun i=>jx te 13 fun k => .ex Bool fun b => .st { sl:=[(77,iy b)],cB:=[b=true↔(mR l l.length).getD (2*i+k) 0=0] })])
  | _=>none
def v37.q1 (p0:cv.den):Prop:=p0=p0
def v37.q2 (p0:List nD) (p1:Nat) (p2:Prop):Prop:=v37.q1 (p0.getD p1 (0,0,0,())).fst∧v37.q1 (p0.getD p1 (0,0,0,())).snd.fst∧v37.q1 (p0.getD p1 (0,0,0,())).snd.snd.fst∧p2
def v37.q3 (p0:List jP.den) (p1 p2:Nat) (p3:List nD) (p4:Nat) (p5:List (aK).den) (p6 p7 p8 p9 mQ Bt Hq E5:Bool):Prop:=True∧∃ (a:Nat→Bool),iu bG.den∧(0:Int)=0∧p0=p0∧(↑p1:Int)=(↑p1:Int)∧(↑p2:Int)=(↑p2:Int)∧(↑p0.length:Int)=(↑p0.length:Int)∧(↑p1:Int)=(↑p1:Int)∧true=true∧(↑p1:Int)=(↑p1:Int)∧p0=p0∧(↑p0.length:Int)=(↑p0.length:Int)∧(↑p2:Int)=(↑p2:Int)∧true=true∧(↑p2:Int)=(↑p2:Int)∧(↑p1:Int)=(↑p1:Int)∧(↑p2:Int)=(↑p2:Int)∧false=false∧p3=p3∧(↑p3.length:Int)=(↑p3.length:Int)∧(↑p4:Int)=(↑p4:Int)∧true=true∧p3=p3∧p4=p4∧0=0∧v37.q2 p3 p4 (p6=a 0∧p7=a 1∧p8=a 2∧p9=a 3∧mQ=a 4∧Bt=a 5∧Hq=a 6∧E5=a 7∧v37.q2 p3 p4 (E6 p5 a ((ES p5 (wv p5 (mR p5 p1) p1 p2) p1 p2 p4).set (2*p1+(eg ((ct (p5.getD p1 dP) (p5.getD p2 dP)).getD p4 (0,0,0,())).1 (1:Int)).toNat) (1:Int))∧True))
def v37.q4 (p0:Nat) (p1:List jP.den) (p2 p3:Nat) (p4:List nD) (p5:List (aK).den) (p6 p7 p8 p9 mQ Bt Hq E5:Bool):Prop:=True∧cn ((↑p0:Int)+1)∧∃ (a:Nat),∃ (x:Nat→Bool),iu bG.den∧(0:Int)=0∧p1=p1∧(↑p2:Int)=(↑p2:Int)∧(↑p3:Int)=(↑p3:Int)∧(↑p1.length:Int)=(↑p1.length:Int)∧(↑p2:Int)=(↑p2:Int)∧true=true∧(↑p2:Int)=(↑p2:Int)∧p1=p1∧(↑p1.length:Int)=(↑p1.length:Int)∧(↑p3:Int)=(↑p3:Int)∧true=true∧(↑p3:Int)=(↑p3:Int)∧(↑p2:Int)=(↑p2:Int)∧(↑p3:Int)=(↑p3:Int)∧false=false∧p4=p4∧(↑p4.length:Int)=(↑p4.length:Int)∧(↑p0:Int)+1=(↑a:Int)∧p6=x 0∧p7=x 1∧p8=x 2∧p9=x 3∧mQ=x 4∧Bt=x 5∧Hq=x 6∧E5=x 7∧a≤(ct (p5.getD p2 dP) (p5.getD p3 dP)).length∧E6 p5 x (ES p5 (wv p5 (mR p5 p2) p2 p3) p2 p3 a)∧(ct (p5.getD p2 dP) (p5.getD p3 dP)).length-a<(ct (p5.getD p2 dP) (p5.getD p3 dP)).length-p0
def v37.q5 (p0:List nD) (p1:Nat) (p2:List jP.den) (p3 p4:Nat) (p5:Nat→Bool) (p6:List (aK).den) (p7 p8 p9 mQ Bt Hq E5 Z5:Bool):Prop:=True∧ay (decide (DD (p0.getD p1 (0,0,0,())).2.1 (1:Int)=0)) (v37.q4 p1 p2 p3 p4 p0 p6 p7 (p5 1) p8 (p5 3) p9 (p5 5) mQ (p5 7)) (ay (decide (DD (p0.getD p1 (0,0,0,())).2.1 (1:Int)=1)) (v37.q4 p1 p2 p3 p4 p0 p6 (p5 0) Bt (p5 2) Hq (p5 4) E5 (p5 6) Z5) False)
def v37.q6 (p0:List (aK).den) (p1 p2:Nat) (p3:List jP.den) (p4:Nat→Bool) (p5:Bool):Prop:=True∧∃ (a:Bool),iu bG.den∧(0:Int)=0∧qG (mR p0 p0.length) (2*p1+p2)=qG (mR p0 p0.length) (2*p1+p2)∧(↑p1:Int)=(↑p1:Int)∧(↑p2:Int)=(↑p2:Int)∧(↑p3.length:Int)=(↑p3.length:Int)∧(↑p1:Int)=(↑p1:Int)∧true=true∧(↑p1:Int)=(↑p1:Int)∧(↑p2:Int)=(↑p2:Int)∧true=true∧(↑p2:Int)=(↑p2:Int)∧(!p5)=a∧p4 0=p4 0∧p4 1=p4 1∧p4 2=p4 2∧p4 3=p4 3∧p4 4=p4 4∧p4 5=p4 5∧p4 6=p4 6∧p4 7=p4 7∧(a=true↔(mR p0 p0.length).getD (2*p1+p2) (0:Int)=0)∧True
def v37.q7 (p0:List jP.den) (p1:Nat) (p2:Prop):Prop:=(p0.getD p1 ([],[],0,[],[],[],[],[],[],[],[],[],())).2.2.2.2.1=(p0.getD p1 ([],[],0,[],[],[],[],[],[],[],[],[],())).1∧(p0.getD p1 ([],[],0,[],[],[],[],[],[],[],[],[],())).2.2.2.2.2.1=(p0.getD p1 ([],[],0,[],[],[],[],[],[],[],[],[],())).2.1∧(p0.getD p1 ([],[],0,[],[],[],[],[],[],[],[],[],())).2.2.2.2.2.2.1=List.reverse (p0.getD p1 ([],[],0,[],[],[],[],[],[],[],[],[],())).2.1∧(p0.getD p1 ([],[],0,[],[],[],[],[],[],[],[],[],())).2.2.2.2.2.2.2.1=List.reverse (p0.getD p1 ([],[],0,[],[],[],[],[],[],[],[],[],())).1∧(p0.getD p1 ([],[],0,[],[],[],[],[],[],[],[],[],())).2.2.2.2.2.2.2.2.1=List.reverse (p0.getD p1 ([],[],0,[],[],[],[],[],[],[],[],[],())).1∧(p0.getD p1 ([],[],0,[],[],[],[],[],[],[],[],[],())).2.2.2.2.2.2.2.2.2.1=List.reverse (p0.getD p1 ([],[],0,[],[],[],[],[],[],[],[],[],())).2.1∧(p0.getD p1 ([],[],0,[],[],[],[],[],[],[],[],[],())).2.2.2.2.2.2.2.2.2.2.1=(p0.getD p1 ([],[],0,[],[],[],[],[],[],[],[],[],())).2.1∧(p0.getD p1 ([],[],0,[],[],[],[],[],[],[],[],[],())).2.2.2.2.2.2.2.2.2.2.2.1=(p0.getD p1 ([],[],0,[],[],[],[],[],[],[],[],[],())).1∧p2
def v37.q8 (p0:List nD) (p1:Nat) (p2:List jP.den) (p3 p4:Nat) (p5:List (aK).den) (p6:Nat→Bool) (p7 p8 p9 mQ Bt Hq E5 Z5:Bool):Prop:=True∧ay (decide ((1:Int)-DD (p0.getD p1 (0,0,0,())).1 (1:Int)=0)) (v37.q3 p2 p3 p4 p0 p1 p5 p7 (p6 1) p8 (p6 3) p9 (p6 5) mQ (p6 7)) (ay (decide ((1:Int)-DD (p0.getD p1 (0,0,0,())).1 (1:Int)=1)) (v37.q3 p2 p3 p4 p0 p1 p5 (p6 0) Bt (p6 2) Hq (p6 4) E5 (p6 6) Z5) False)
def v37.q9 (p0:Nat→Bool) (p1 p2 p3 p4:Nat):Prop:=(↑p1:Int)=(↑p1:Int)∧(↑p2:Int)+1=(↑p3:Int)∧p0 0=p0 0∧p0 1=p0 1∧p0 2=p0 2∧p0 3=p0 3∧p0 4=p0 4∧p0 5=p0 5∧p0 6=p0 6∧p0 7=p0 7∧p3≤p4∧p4-p3<p4-p2
def v37.Wq (p0:Nat) (p1:List jP.den) (p2:Nat) (p3:List (aK).den) (p4 p5 p6 p7 p8 p9 mQ Bt:Bool):Prop:=cn ((↑p0:Int)+1)∧∃ (a:Nat),∃ (x:Nat→Bool),iu bG.den∧(0:Int)=0∧p1=p1∧(↑p2:Int)=(↑p2:Int)∧(↑p1.length:Int)=(↑p1.length:Int)∧(↑p2:Int)=(↑p2:Int)∧true=true∧(↑p2:Int)=(↑p2:Int)∧p1=p1∧(↑p1.length:Int)=(↑p1.length:Int)∧(↑p0:Int)+1=(↑a:Int)∧p4=x 0∧p5=x 1∧p6=x 2∧p7=x 3∧p8=x 4∧p9=x 5∧mQ=x 6∧Bt=x 7∧a≤p3.length∧E6 p3 x (wv p3 (mR p3 p2) p2 a)∧p3.length-a<p3.length-p0
def v37.Wp (p0:List jP.den) (p1:Nat):Prop:=Ok (p0.getD p1 ([],[],0,[],[],[],[],[],[],[],[],[],())).1 (p0.getD p1 ([],[],0,[],[],[],[],[],[],[],[],[],())).2.1 (p0.getD p1 ([],[],0,[],[],[],[],[],[],[],[],[],())).2.2.1 (p0.getD p1 ([],[],0,[],[],[],[],[],[],[],[],[],())).2.2.2.1
def v37.RE (p0:List (aK).den) (p1 p2 p3 p4 p5 p6 p7 p8:Bool) (p9:Nat) (mQ:Nat→List Int):Prop:=∃ (a:Nat),∃ (x:Nat→Bool),0=(↑a:Int)∧p1=x 0∧p2=x 1∧p3=x 2∧p4=x 3∧p5=x 4∧p6=x 5∧p7=x 6∧p8=x 7∧a≤p9∧E6 p0 x (mQ a)∧p9-a<1000000
def v37.Sb (p0:Nat) (p1:List (aK).den) (p2:Nat) (p3:List jP.den) (p4:Nat→Bool) (p5 p6:Bool):Prop:=True∧ay (decide ((↑p0:Int)=0)) (v37.q6 p1 p2 p0 p3 p4 p5) (ay (decide ((↑p0:Int)=1)) (v37.q6 p1 p2 p0 p3 p4 p6) False)
theorem v37:VI P4 Tryz.f37 [some (.sl bG),some cv] D37:=by
  refine fF fun a => ?_
  unfold D37
  split
  rotate_left
  · trivial
  rename_i l
  intro hp
  refine tH (A:=l.length≤1000∧(∀ (p:(aK).den),p∈l→dD p)∧ay (iC l !=0) (∃ (a:List (List Int)),∃ (y:Int),[]=a∧iC l=y∧a=HM l∧y=iC l∧True) ((l.length≤1000∧(∀ (p:(aK).den),p∈l→dD p)∧∃ (a:List jP.den),iu bG.den∧(0:Int)=0∧List.map Hx l=a∧false=false∧false=false∧false=false∧false=false∧false=false∧false=false∧false=false∧false=false∧a=List.map Hx l∧True)∧∀ (a:List jP.den),a=List.map Hx l→(v37.RE l false false false false false false false false l.length fun(a:Nat)=>mR l a)∧∀ (y:Nat) (s:Nat→Bool),y≤l.length→E6 l s (mR l y)→ay (decide ((↑y:Int)<(↑a.length:Int))) ((v37.RE l (s 0) (s 1) (s 2) (s 3) (s 4) (s 5) (s 6) (s 7) l.length fun(a:Nat)=>wv l (mR l y) y a)∧∀ (x:Nat) (z:Nat→Bool),x≤l.length→E6 l z (wv l (mR l y) y x)→ay (decide ((↑x:Int)<(↑a.length:Int))) (ay ((↑y:Int)==(↑x:Int)) (v37.Wq x a y l (z 0) (z 1) (z 2) (z 3) (z 4) (z 5) (z 6) (z 7)) (((0≤(↑y:Int)∧(↑y:Int)<(↑a.length:Int))∧(0≤(↑x:Int)∧(↑x:Int)<(↑a.length:Int))∧v37.Wp a y∧v37.Wp a x∧v37.q7 a y (v37.q7 a x (∃ (r:List nD),bp (a.getD y ([],[],0,[],[],[],[],[],[],[],[],[],())).1 (a.getD y ([],[],0,[],[],[],[],[],[],[],[],[],())).2.1 (a.getD y ([],[],0,[],[],[],[],[],[],[],[],[],())).2.2.2.1 (a.getD x ([],[],0,[],[],[],[],[],[],[],[],[],())).1 (a.getD x ([],[],0,[],[],[],[],[],[],[],[],[],())).2.1 (a.getD x ([],[],0,[],[],[],[],[],[],[],[],[],())).2.2.2.1 ((a.getD y ([],[],0,[],[],[],[],[],[],[],[],[],())).2.2.1+(a.getD x ([],[],0,[],[],[],[],[],[],[],[],[],())).2.2.1)=r∧(↑(bp (a.getD y ([],[],0,[],[],[],[],[],[],[],[],[],())).1 (a.getD y ([],[],0,[],[],[],[],[],[],[],[],[],())).2.1 (a.getD y ([],[],0,[],[],[],[],[],[],[],[],[],())).2.2.2.1 (a.getD x ([],[],0,[],[],[],[],[],[],[],[],[],())).1 (a.getD x ([],[],0,[],[],[],[],[],[],[],[],[],())).2.1 (a.getD x ([],[],0,[],[],[],[],[],[],[],[],[],())).2.2.2.1 ((a.getD y ([],[],0,[],[],[],[],[],[],[],[],[],())).2.2.1+(a.getD x ([],[],0,[],[],[],[],[],[],[],[],[],())).2.2.1)).length:Int)=(↑r.length:Int)∧(0:Int)=0∧r=ct (l.getD y dP) (l.getD x dP)∧True)))∧∀ (r:List nD),r=ct (l.getD y dP) (l.getD x dP)→(v37.RE l (z 0) (z 1) (z 2) (z 3) (z 4) (z 5) (z 6) (z 7) (ct (l.getD y dP) (l.getD x dP)).length fun(a:Nat)=>ES l (wv l (mR l y) y x) y x a)∧∀ (v:Nat) (u:Nat→Bool),v≤(ct (l.getD y dP) (l.getD x dP)).length→E6 l u (ES l (wv l (mR l y) y x) y x v)→ay (decide ((↑v:Int)<(↑r.length:Int))) ((0≤(↑v:Int)∧(↑v:Int)<(↑r.length:Int))∧(True∧cn ((1:Int)-DD (r.getD v (0,0,0,())).1 (1:Int))∧ay (decide ((↑y:Int)=0)) (v37.q8 r v a y x l u true (u 2) (u 4) (u 6) true (u 3) (u 5) (u 7)) (ay (decide ((↑y:Int)=1)) (v37.q8 r v a y x l u (u 0) true (u 4) (u 6) (u 1) true (u 5) (u 7)) (ay (decide ((↑y:Int)=2)) (v37.q8 r v a y x l u (u 0) (u 2) true (u 6) (u 1) (u 3) true (u 7)) (ay (decide ((↑y:Int)=3)) (v37.q8 r v a y x l u (u 0) (u 2) (u 4) true (u 1) (u 3) (u 5) true) False))))∧∀ (w:Nat→Bool),E6 l w ((ES l (wv l (mR l y) y x) y x v).set (2*y+(eg ((ct (l.getD y dP) (l.getD x dP)).getD v (0,0,0,())).1 (1:Int)).toNat) (1:Int))→True∧ay (decide ((↑x:Int)=0)) (v37.q5 r v a y x w l true (w 2) (w 4) (w 6) true (w 3) (w 5) (w 7)) (ay (decide ((↑x:Int)=1)) (v37.q5 r v a y x w l (w 0) true (w 4) (w 6) (w 1) true (w 5) (w 7)) (ay (decide ((↑x:Int)=2)) (v37.q5 r v a y x w l (w 0) (w 2) true (w 6) (w 1) (w 3) true (w 7)) (ay (decide ((↑x:Int)=3)) (v37.q5 r v a y x w l (w 0) (w 2) (w 4) true (w 1) (w 3) (w 5) true) False)))) (v37.Wq x a y l (u 0) (u 1) (u 2) (u 3) (u 4) (u 5) (u 6) (u 7)))) (cn ((↑y:Int)+1)∧∃ (r:Nat),∃ (v:Nat→Bool),iu bG.den∧(0:Int)=0∧a=a∧(↑a.length:Int)=(↑a.length:Int)∧(↑y:Int)+1=(↑r:Int)∧z 0=v 0∧z 1=v 1∧z 2=v 2∧z 3=v 3∧z 4=v 4∧z 5=v 5∧z 6=v 6∧z 7=v 7∧r≤l.length∧E6 l v (mR l r)∧l.length-r<l.length-y)) ((∃ (a:Nat),[]=qG (mR l l.length) (2*a)∧0=(↑a:Int)∧a≤l.length∧l.length-a<1000000)∧∀ (x:Nat),x≤l.length→ay (decide ((↑x:Int)<(↑a.length:Int))) ((∃ (a:Nat),qG (mR l l.length) (2*x)=qG (mR l l.length) (2*x+a)∧0=(↑a:Int)∧a≤2∧2-a<1000000)∧∀ (z:Nat),z≤2→ay (decide ((↑z:Int)<2)) (ay (decide ((↑x:Int)=0)) (v37.Sb z l x a s (s 0) (s 1)) (ay (decide ((↑x:Int)=1)) (v37.Sb z l x a s (s 2) (s 3)) (ay (decide ((↑x:Int)=2)) (v37.Sb z l x a s (s 4) (s 5)) (ay (decide ((↑x:Int)=3)) (v37.Sb z l x a s (s 6) (s 7)) False)))∧∀ (r:Bool),(r=true↔(mR l l.length).getD (2*x+z) (0:Int)=0)→ay r ((qG (mR l l.length) (2*x+z)).length+1≤1000000000∧cn ((↑z:Int)+1)∧∃ (v:Nat),iu bG.den∧(0:Int)=0∧qG (mR l l.length) (2*x+z)++[[(↑x:Int),(↑z:Int)]]=qG (mR l l.length) (2*x+v)∧(↑x:Int)=(↑x:Int)∧(↑a.length:Int)=(↑a.length:Int)∧(↑x:Int)=(↑x:Int)∧true=true∧v37.q9 s x z v 2) (cn ((↑z:Int)+1)∧∃ (v:Nat),iu bG.den∧(0:Int)=0∧qG (mR l l.length) (2*x+z)=qG (mR l l.length) (2*x+v)∧(↑x:Int)=(↑x:Int)∧(↑a.length:Int)=(↑a.length:Int)∧(↑x:Int)=(↑x:Int)∧true=true∧v37.q9 s x z v 2)) (cn ((↑x:Int)+1)∧∃ (r:Nat),iu bG.den∧(0:Int)=0∧qG (mR l l.length) (2*x+z)=qG (mR l l.length) (2*r)∧v37.q9 s a.length x r l.length)) (∃ (a:List (List Int)),∃ (z:Int),qG (mR l l.length) (2*x)=a∧0=z∧a=HM l∧z=iC l∧True)))) (by kernel_rfl) ?_
  unfold v37.Sb v37.RE v37.Wp v37.Wq v37.q9 v37.q8 v37.q7 v37.q6 v37.q5 v37.q4 v37.q3 v37.q2 v37.q1
  obtain⟨h1,h2,-⟩:=hp
  change List PD at l
  simp only[cF,cZ,bR,eq_self,true_and,and_true,eO,cn]
  refine⟨h1,h2,fun e0 => ?_,fun e1=>⟨[],_,rfl,rfl,by rw[HM,if_neg e1],rfl⟩⟩
  obtain⟨k1,k2⟩:=zk e0
  refine⟨⟨h1,h2,_,rfl,rfl⟩,fun W hW => ?_⟩
  subst hW
  simp only[gp]
  refine⟨⟨0,fun _=>false,rfl,rfl,rfl,rfl,rfl,rfl,rfl,rfl,rfl,by omega,QY,by omega⟩,fun i g hi hg=>⟨fun EU=>⟨⟨0,g,rfl,rfl,rfl,rfl,rfl,rfl,rfl,rfl,rfl,by omega,hg,by omega⟩,fun k g1 hk Sj=>⟨fun oI=>⟨fun e => ?_,fun e => ?_⟩,fun oI => ?_⟩⟩,fun EU=>⟨⟨0,rfl,rfl,by omega,by omega⟩,fun x hx=>⟨fun iz=>⟨⟨0,rfl,rfl,by omega,by omega⟩,fun y hy=>⟨fun Jq => ?_,fun Jq => ?_⟩⟩,fun iz => ?_⟩⟩⟩⟩
  · exact⟨⟨by omega,by omega⟩,k+1,g1,by omega,rfl,rfl,rfl,rfl,rfl,rfl,rfl,rfl,by omega,KE (l:=l) (by omega:i=k)▸Sj,by omega⟩
  · have o1:s8 (l.getD i dP):=eA (by omega) k2
    have o2:s8 (l.getD k dP):=eA (by omega) k2
    have sl:=CC o1 o2
    simp only[OZ (l:=l) (k:=i) (by omega),OZ (l:=l) (k:=k) (by omega),Hx,eq_self,true_and]
    refine⟨⟨⟨by omega,by omega⟩,⟨by omega,by omega⟩,o1,o2,_,rfl,rfl,rfl⟩,fun s hs => ?_⟩
    subst hs
    refine⟨⟨0,g1,rfl,rfl,rfl,rfl,rfl,rfl,rfl,rfl,rfl,by omega,Sj,by omega⟩,fun j g2 hj Ht=>⟨fun oJ => ?_,fun oJ => ?_⟩⟩
    · have oJ:j<(ct (l.getD i dP) (l.getD k dP)).length:=Int.ofNat_lt.1 oJ
      have st:=Gi (l:=l) (U:=wv l (mR l i) i k) (a:=i) (b:=k) (0,0,0,()) oJ
      have li:=LZ o1 o2 oJ
      revert st li
      generalize (ct (l.getD i dP) (l.getD k dP)).getD j (0,0,0,())=s
      rintro st ⟨⟨x0,x3⟩,y0,y3⟩
      have hx:eg s.1 1=0∨eg s.1 1=1:=by unfold eg; split<;>omega
      have hy:=(Iw y0 y3).2.2
      simp only[(Iw x0 x3).2.1,(Iw y0 y3).1]
      refine⟨⟨by omega,Int.ofNat_lt.2 oJ⟩,⟨⟨by omega,by omega⟩,br4 (by omega) (fun _=>Np hx (fun _=>⟨up g2 0,rfl,rfl,rfl,rfl,rfl,rfl,rfl,rfl,mC Ht (by omega) (by omega)⟩) (fun _=>⟨up g2 1,rfl,rfl,rfl,rfl,rfl,rfl,rfl,rfl,mC Ht (by omega) (by omega)⟩)) (fun _=>Np hx (fun _=>⟨up g2 2,rfl,rfl,rfl,rfl,rfl,rfl,rfl,rfl,mC Ht (by omega) (by omega)⟩) (fun _=>⟨up g2 3,rfl,rfl,rfl,rfl,rfl,rfl,rfl,rfl,mC Ht (by omega) (by omega)⟩)) (fun _=>Np hx (fun _=>⟨up g2 4,rfl,rfl,rfl,rfl,rfl,rfl,rfl,rfl,mC Ht (by omega) (by omega)⟩) (fun _=>⟨up g2 5,rfl,rfl,rfl,rfl,rfl,rfl,rfl,rfl,mC Ht (by omega) (by omega)⟩)) (fun _=>Np hx (fun _=>⟨up g2 6,rfl,rfl,rfl,rfl,rfl,rfl,rfl,rfl,mC Ht (by omega) (by omega)⟩) (fun _=>⟨up g2 7,rfl,rfl,rfl,rfl,rfl,rfl,rfl,rfl,mC Ht (by omega) (by omega)⟩))⟩,fun g3 hg3 => ?_⟩
      have fin:∀ M,2*k+(eg s.2.1 0).toNat=M→M<2*l.length→E6 l (up g3 M) (ES l (wv l (mR l i) i k) i k (j+1)):=fun M e h=>by rw[← st]; exact mC hg3 e h
      exact br4 (by omega) (fun _=>Np hy (fun _=>⟨⟨by omega,by omega⟩,j+1,up g3 0,by omega,rfl,rfl,rfl,rfl,rfl,rfl,rfl,rfl,by omega,fin _ (by omega) (by omega),by omega⟩) (fun _=>⟨⟨by omega,by omega⟩,j+1,up g3 1,by omega,rfl,rfl,rfl,rfl,rfl,rfl,rfl,rfl,by omega,fin _ (by omega) (by omega),by omega⟩)) (fun _=>Np hy (fun _=>⟨⟨by omega,by omega⟩,j+1,up g3 2,by omega,rfl,rfl,rfl,rfl,rfl,rfl,rfl,rfl,by omega,fin _ (by omega) (by omega),by omega⟩) (fun _=>⟨⟨by omega,by omega⟩,j+1,up g3 3,by omega,rfl,rfl,rfl,rfl,rfl,rfl,rfl,rfl,by omega,fin _ (by omega) (by omega),by omega⟩)) (fun _=>Np hy (fun _=>⟨⟨by omega,by omega⟩,j+1,up g3 4,by omega,rfl,rfl,rfl,rfl,rfl,rfl,rfl,rfl,by omega,fin _ (by omega) (by omega),by omega⟩) (fun _=>⟨⟨by omega,by omega⟩,j+1,up g3 5,by omega,rfl,rfl,rfl,rfl,rfl,rfl,rfl,rfl,by omega,fin _ (by omega) (by omega),by omega⟩)) (fun _=>Np hy (fun _=>⟨⟨by omega,by omega⟩,j+1,up g3 6,by omega,rfl,rfl,rfl,rfl,rfl,rfl,rfl,rfl,by omega,fin _ (by omega) (by omega),by omega⟩) (fun _=>⟨⟨by omega,by omega⟩,j+1,up g3 7,by omega,rfl,rfl,rfl,rfl,rfl,rfl,rfl,rfl,by omega,fin _ (by omega) (by omega),by omega⟩))
    · have oJ:¬ j<(ct (l.getD i dP) (l.getD k dP)).length:=fun h=>oJ (Int.ofNat_lt.2 h)
      refine⟨⟨by omega,by omega⟩,k+1,g2,by omega,rfl,rfl,rfl,rfl,rfl,rfl,rfl,rfl,by omega,?_,by omega⟩
      rw[← Ph (by omega:i≠k),← show j=(ct (l.getD i dP) (l.getD k dP)).length by omega]
      exact Ht
  · refine⟨⟨by omega,by omega⟩,i+1,g1,by omega,rfl,rfl,rfl,rfl,rfl,rfl,rfl,rfl,by omega,?_,by omega⟩
    rw[← Gj,← show k=l.length by omega]
    exact Sj
  · have hz:∀ M,M<8→2*x+y=M→∃ a,(!g M)=a∧(a=true↔(mR l l.length).getD (2*x+y) 0=0):=fun M hM e=>⟨_,rfl,by rw[Bool.not_eq_true',(hg.2 M hM),e,show i=l.length by omega]⟩
    have Zu:(y:Int)=0∨(y:Int)=1:=by omega
    have bl:=Ew (U:=mR l l.length) (k:=2*x+y)
    refine⟨br4 (by omega) (fun _=>Np Zu (fun _=>hz 0 (by omega) (by omega)) (fun _=>hz 1 (by omega) (by omega))) (fun _=>Np Zu (fun _=>hz 2 (by omega) (by omega)) (fun _=>hz 3 (by omega) (by omega))) (fun _=>Np Zu (fun _=>hz 4 (by omega) (by omega)) (fun _=>hz 5 (by omega) (by omega))) (fun _=>Np Zu (fun _=>hz 6 (by omega) (by omega)) (fun _=>hz 7 (by omega) (by omega))),fun b hb=>iG.2 ⟨fun c => ?_,fun c => ?_⟩⟩
    · exact⟨by omega,⟨by omega,by omega⟩,y+1,by rw[← fC,← K0 (hb.1 c),show (2*x+y) / 2=x by omega,show (2*x+y) % 2=y by omega],by omega,by omega,by omega⟩
    · exact⟨⟨by omega,by omega⟩,y+1,(by rw[← fC]; exact PF fun h=>by rw[hb.2 h] at c; cases c),by omega,by omega,by omega⟩
  · refine⟨⟨by omega,by omega⟩,x+1,by rw[show y=2 by omega,show 2*x+2=2*(x+1) by omega],by omega,by omega,by omega⟩
  · exact⟨_,_,rfl,rfl,by rw[HM,if_pos e0,show x=l.length by omega],e0.symm⟩
end Go.Tv
end
section
namespace Go.Tv
open Go Go.Di Go.Proofs
set_option maxRecDepth 100000
def O3 (te:List TV) (i:Nat) (k:Nat→LA):LA :=
 match te.getD i .unk with
 | .ptr p _=>k p
 | _ => .un 0
def aaP (te:List TV) (i:Nat) (k:Int→LA):LA :=
 match te.getD i .unk with
 | .val (.int .i64 n)=>k n
 | _ => .un 0
def J26:List (Nat×LA):=[(4,.dep fun te tS=>aaP te 6 fun k=>O3 te 0 fun p => .ex Nat fun m => .ex (List aK.den) fun l => .ex (List Int) fun r => .ex Int fun z => .st { sl:=[(5,.sl aK l (.nQ tS.length)),(6,bg m)],pl:=[(p,wE r z)],own:=[(25,4)],cB:=[(l.length+m:Int)≤k∨(l.length+m:Int)=0,∀ p∈l,s8 p],m:=m })]
def qV (x:List aK.den):Prop:=x.length≤20∧∀ p∈x,dD p
noncomputable def H4:gd:=(((T6.cA 42 fun a=>dS (D20 a)).LC 26 Tryz.f26 J26).LC 16 Tryz.f16 J16)
def D14:List TV→List TV→Dn
 | [.sl (.pair (.sl (.int .i64)) (.pair (.sl (.int .i64)) (.pair (.int .i64) (.pair (.sl (.int .i64)) .unit)))) l .no,.agg [.sl (.int .i64) u .no,.sl (.int .i64) lo .no,.val (.int .i64 w),.sl (.int .i64) q .no],.ptr 0 0],[.sl (.int .i64) _ .no,.val (.int .u64 _)] =>
  some ([qV l,Sh u lo q],.ex (List (List aK.den)) fun all => .ex (List Int) fun r => .ex Int fun z => .res (.sl (.sl aK) all .no) (wE r z) [all.length=3,∀ x∈all,qV x],
   [(1,.ex (List aK.den) fun ps => .ex (List Int) fun r => .ex Int fun z => .st { sl:=[(7,.sl aK ps .no)],pl:=[(0,wE r z)],cB:=[ps.length≤4,∀ p∈ps,s8 p] })])
 | _,_=>none
theorem Eo {l:List aK.den} {u lo q:List Int} {w:Int} (h:∀ p∈l,s8 p) (ho:Ok u lo w q):∀ p∈l++[(u,lo,w,q,())],s8 p:=fun p hp=>by
 rcases gn.1 hp with hp | hp
 ·exact h p hp
 ·rw[bJ.1 hp]; exact ho
def v14.q1 (p0:List aK.den) (p1:Nat) (p2 p3:List cv.den) (p4:Int) (p5:List cv.den) (p6:Int) (p7 p8:List Int) (p9:Int) (mQ Bt:List Int) (Hq:Int):Prop:=p0.length+1≤1000000000∧cn ((↑p1:Int)-1)∧∃ (a:Nat),∃ (x:List aK.den),∃ (y:List Int),∃ (z:Int),iu aK.den∧p0++[(p7,p8,p9,mQ,())]=x∧(↑p1:Int)-1=(↑a:Int)∧Bt=y∧Hq=z∧p2=p2∧p3=p3∧p4=p4∧p5=p5∧((↑x.length:Int)+(↑a:Int)≤p6∨(↑x.length:Int)+(↑a:Int)=0)∧(∀ (p:aK.den),p∈x→s8 p)∧a<p1
def v14.q2 (p0:List (aK).den) (p1 p2:List aK.den) (p3:List Int) (p4:Int):Prop:=∃ (a:List (List aK.den)),∃ (y:List Int),∃ (z:Int),[p0,p1,p2]=a∧p3=y∧p4=z∧a.length=3∧(∀ (x:List aK.den),x∈a→qV x)∧True
def v14.q3 (p0:List aK.den) (p1:Int) (p2 p3:Nat) (p4:Prop):Prop:=(0≤p1∧p1<(↑p0.length:Int))∧Sh (p0.getD p2 ([],[],0,[],())).1 (p0.getD p2 ([],[],0,[],())).2.1 (p0.getD p2 ([],[],0,[],())).2.2.2.1∧p3≤1000000000∧p4
theorem v14:VC H4 Tryz.f14 [some (.sl (.sl aK))] [some bG,some (.int .u64)] D14 1:=by
 refine aaW fun a cs => ?_
 unfold D14
 split
 rotate_left
 ·trivial
 rename_i l u lo w q r z
 intro hp
 refine tH (A:=((4:Int)≤1000∧(-10000:Int)≤4∧∀ (a:Int) (y:List Int) (m:Int),0≤a→a≤4∨a=0→(∃ (z:Nat),∃ (v:List aK.den),∃ (k:List Int),∃ (j:Int),[]=v∧a=(↑z:Int)∧y=k∧m=j∧((↑v.length:Int)+(↑z:Int)≤a∨(↑v.length:Int)+(↑z:Int)=0)∧(∀ (p:aK.den),p∈v→s8 p)∧z<1000000)∧∀ (z:Nat) (v:List aK.den) (k:List Int) (j:Int),(↑v.length:Int)+(↑z:Int)≤a∨(↑v.length:Int)+(↑z:Int)=0→(∀ (p:aK.den),p∈v→s8 p)→ay (decide ((↑z:Int)>0)) (ay (decide ((↑v.length:Int)>0)) ((2:Int)≤1000∧(0:Int)≤2∧∀ (s:Bool) (i:Int) (d:List Int) (f:Int),ay s (cn ((↑v.length:Int)-1)∧(↑v.length:Int)-1≤1000∧(-10000:Int)≤(↑v.length:Int)-1∧∀ (r:Int) (n:List Int) (e:Int),0≤r→r≤(↑v.length:Int)-1∨r=0→(0≤r∧r<(↑v.length:Int))∧Ok (v.getD r.toNat ([],[],0,[],())).1 (v.getD r.toNat ([],[],0,[],())).2.1 (v.getD r.toNat ([],[],0,[],())).2.2.1 (v.getD r.toNat ([],[],0,[],())).2.2.2.1∧∀ (t h:List Int) (g:Int) (c b:List Int) (X:Int),Ok t h g c→t=List.map (fun(x:cv.den)=>(9:cv.den)-x) (v.getD r.toNat ([],[],0,[],())).2.1→v14.q1 v z u lo w q a t h g c b X) ((3:Int)≤5∧(5:Int)≤8∧∀ (r n:List Int) (e:Int) (t h:List Int) (g:Int),Ok r n e t→(↑r.length:Int)≤5→v14.q1 v z u lo w q a r n e t h g)) ((3:Int)≤5∧(5:Int)≤8∧∀ (s i:List Int) (d:Int) (f r:List Int) (n:Int),Ok s i d f→(↑s.length:Int)≤5→v14.q1 v z u lo w q a s i d f r n)) (∃ (a:List aK.den),∃ (s:List Int),∃ (i:Int),l=l∧iu aK.sl.den∧v=a∧k=s∧j=i∧u=u∧lo=lo∧w=w∧q=q∧a.length≤4∧(∀ (p:aK.den),p∈a→s8 p)∧True))∧∀ (a:List aK.den) (y:List Int) (m:Int),a.length≤4→(∀ (p:aK.den),p∈a→s8 p)→ay (decide (0<(↑a.length:Int))) (v14.q3 a (0:Int) 0 1 (cn (1:Int)∧(∃ (z:Nat),1=(↑z:Int)∧[((a.getD 0 ([],[],0,[],())).1,(a.getD 0 ([],[],0,[],())).2.1,(a.getD 0 ([],[],0,[],())).2.2.1,(a.getD 0 ([],[],0,[],())).2.2.2.1,())]=List.take z a∧z≤a.length∧a.length-z<1000000)∧∀ (z:Nat),z≤a.length→ay (decide ((↑z:Int)<(↑a.length:Int))) (v14.q3 a (↑z:Int) z ((List.take z a).length+1) (cn ((↑z:Int)+1)∧∃ (v:Nat),a=a∧iu aK.den∧(↑z:Int)+1=(↑v:Int)∧y=y∧m=m∧u=u∧lo=lo∧w=w∧q=q∧List.take z a++[((a.getD z ([],[],0,[],())).1,(a.getD z ([],[],0,[],())).2.1,(a.getD z ([],[],0,[],())).2.2.1,(a.getD z ([],[],0,[],())).2.2.2.1,())]=List.take v a∧v≤a.length∧a.length-v<a.length-z)) (True∧ay (decide ((↑(List.take z a).length:Int)>0)) (True∧cn ((↑(List.take z a).length:Int)-1)∧(↑(List.take z a).length:Int)-1≤1000∧(-10000:Int)≤(↑(List.take z a).length:Int)-1∧∀ (v:Int) (k:List Int) (j:Int),0≤v→v≤(↑(List.take z a).length:Int)-1∨v=0→(0≤v∧v<(↑(List.take z a).length:Int))∧True∧v14.q2 l a ((List.take z a).set v.toNat (u,lo,w,q,())) k j) (v14.q2 l a (List.take z a) y m)))) (v14.q2 l a [] y m)) (by kernel_rfl) ?_
 unfold v14.q3 v14.q2 v14.q1
 obtain⟨hl,hs,-⟩:=hp
 simp only[bR,aaV,eq_self,true_and,and_true,cn,eO]
 refine⟨⟨by omega,by omega,fun k r z sO Jv=>⟨⟨k.toNat,[],r,z,rfl,by omega,rfl,rfl,by simp only[List.length_nil]; omega,by simp,by omega⟩,fun m l' r z hm ho=>⟨fun zH=>⟨fun hl=>⟨by omega,by omega,fun b z1 r2 z2=>iG.2 ⟨fun _=>⟨⟨by omega,by omega⟩,by omega,by omega,fun i r3 z3 hi1 hi2=>⟨⟨by omega,by omega⟩,?_,fun u lo w q r4 z4 jr hu=>⟨by omega,⟨by omega,by omega⟩,m-1,_,_,_,rfl,by omega,rfl,rfl,by simp only[bU,List.length_singleton]; omega,Eo ho jr,by omega⟩⟩⟩,fun _=>⟨by omega,by omega,fun u lo w q r4 z4 jr hu=>⟨by omega,⟨by omega,by omega⟩,m-1,_,_,_,rfl,by omega,rfl,rfl,by simp only[bU,List.length_singleton]; omega,Eo ho jr,by omega⟩⟩⟩⟩,fun hl=>⟨by omega,by omega,fun u lo w q r4 z4 jr hu=>⟨by omega,⟨by omega,by omega⟩,m-1,_,_,_,rfl,by omega,rfl,rfl,by simp only[bU,List.length_singleton]; omega,Eo ho jr,by omega⟩⟩⟩,fun ad3=>⟨_,_,_,rfl,rfl,rfl,by omega,ho⟩⟩⟩⟩,fun ps r z ZB jr => ?_⟩
 ·rw[aL,bK (by omega)]; exact ho _ (mJ _)
 have Nz:∀ p∈ps,dD p:=fun p hp=>Ij (jr p hp)
 have fin:∀ X:List PD,X.length≤20→(∀ p∈X,dD p)→∀ x∈[l,ps,X],qV x:=fun X h1 h2 x hx=>by
  simp only[bH,eu,or_false] at hx
  rcases hx with rfl | rfl | rfl
  ·exact hl
  ·exact⟨by omega,Nz⟩
  ·exact⟨h1,h2⟩
 have tk:∀ i,i≤ps.length→(ps.take i).length≤20∧∀ p∈ps.take i,dD p:=fun i hi=>⟨by rw[gq]; omega,fun p hp=>Nz p (List.mem_of_mem_take hp)⟩
 refine⟨fun h0=>⟨⟨by omega,by omega⟩,eA (by omega) Nz,by omega,⟨by omega,by omega⟩,⟨1,rfl,y8 (i:=0) (by omega),by omega,by omega⟩,fun i hi=>⟨fun ET=>⟨⟨by omega,by omega⟩,eA (by omega) Nz,by rw[gq]; omega,⟨by omega,by omega⟩,i+1,by omega,y8 (by omega),by omega,by omega⟩,fun ET=>⟨fun hne=>⟨⟨by omega,by have:=(tk i hi).1; omega⟩,by rw[gq]; omega,by omega,fun k r2 z2 k1 k2=>⟨⟨by omega,by omega⟩,_,_,_,rfl,rfl,rfl,rfl,fin _ (by rw[List.length_set]; exact(tk i hi).1) fun p hp => ?_⟩⟩,fun hne=>⟨_,_,_,rfl,rfl,rfl,rfl,fin _ (tk i hi).1 (tk i hi).2⟩⟩⟩⟩,fun h0=>⟨_,_,_,rfl,rfl,rfl,rfl,fin [] (by decide) (by simp)⟩⟩
 rcases List.mem_or_eq_of_mem_set hp with h | rfl
 ·exact(tk i hi).2 p h
 ·exact hs
end Go.Tv
end
section
namespace Go.Tv
open Go Go.Di Go.Proofs
set_option maxRecDepth 100000
noncomputable def P5:gd:=(((((T6.cA 11 fun a=>dS (D18 a)).cA 16 fun a=>dS (X0 a)).sZ 14 fun a c=>dS (D14 a c)).cA 35 fun a=>dS (ZV a)).cA 36 fun a=>dS (ZV a)).cA 37 fun a=>dS (D37 a)
noncomputable def P6:gd:=((P5.cA 38 fun a=>dS (D38 a)).cA 24 fun a=>dS (XZ a)).cA 25 fun a=>dS (XY a)
def D5:List TV→Dn
  | [.sl (.pair (.sl (.int .i64)) (.pair (.sl (.int .i64)) (.pair (.int .i64) (.pair (.sl (.int .i64)) .unit)))) _ .no,.agg [.sl (.int .i64) _ .no,.sl (.int .i64) _ .no,.val (.int .i64 _),.sl (.int .i64) _ .no],.val (.int .i64 _),.val (.int .i64 _),.sl (.int .i64) _ .no]=>some ([],.res (iy true) [] [],
     [(6,.dep fun te _=>O3 te 11 fun p => .ex (List Int) fun A => .ex (List Int) fun B => .ex (List Int) fun r => .ex Int fun z => .st { sl:=[(13,.sl cv A .no),(14,.sl cv B .no)],pl:=[(p,wE r z)],cB:=[A.length=3,B.length=3] }),
     (9,.ex Nat fun i => .st { sl:=[(15,bg i)],cB:=[i≤3],m:=3-i })])
  | _=>none
theorem VQ {l:List PD} (h:(decide (l.length≤20)&&l.all HA)=true):qV l:=by
  simp only[aG,bI,bh] at h
  exact⟨h.1,fun p hp=>Yv (h.2 p hp)⟩
theorem Vv {c:Bool} {A B:Prop} (h:c=true) (hB:B):ay (!c) A B:=by subst h; exact hB
theorem Za (l:List PD):(HM l).length≤1000∧∀ x∈HM l,x.length≤1000:=by
  unfold HM
  split
  · rename_i h
    have k:=(zk h).1
    refine⟨by have:=Ew (U:=mR l l.length) (k:=2*l.length); omega,fun x hx => ?_⟩
    simp only[qG,eF] at hx
    obtain⟨_,_,rfl⟩:=hx
    exact(by decide:2≤1000)
  · exact⟨jD _,by simp⟩
def v5.q1 (p0:List (List aK.den)) (p1:Nat) (p2:Prop):Prop:=List.length (p0.getD p1 [])≤1000∧(∀ (p:(aK).den),p∈p0.getD p1 []→dD p)∧p2
def v5.q2 (p0 p1:Nat) (p2:Prop):Prop:=(0≤(↑p0:Int)∧(↑p0:Int)<(↑p1:Int))∧p2
theorem v5:VI P6 Tryz.f5 [some .bool] D5:=by
  refine fF fun a => ?_
  unfold D5
  split
  rotate_left
  · trivial
  rename_i l u lo w q na nb HP
  intro hp
  refine tH (A:=∀ (a:Bool),a=(decide (l.length≤20)&&l.all HA)→ay (!a) (true=true∧True) (∀ (a:Bool),a=(decide (1≤20)&&[(u,lo,w,q,())].all HA)→ay (!a) (true=true∧True) (qV l∧Sh u lo q∧∀ (a:List (List aK.den)) (y:List Int) (b:Int),a.length=3→(∀ (x:List aK.den),x∈a→qV x)→((3:Int)≤1000∧(-10000:Int)≤3∧∀ (v:Int) (r:List Int) (f:Int),0≤v→v≤3∨v=0→(1:Int)≤1000∧(-10000:Int)≤1∧∀ (t:Int) (z:List Int) (e:Int),0≤t→t≤1∨t=0→(3:Int)≤1000∧(-10000:Int)≤3∧∀ (m:Int) (j:List Int) (i:Int),0≤m→m≤3∨m=0→∃ (s:List Int),∃ (k:List Int),∃ (n:List Int),∃ (h:Int),false=false∧a=a∧[na,v,t]=s∧[nb,m,(2:Int)]=k∧u=u∧lo=lo∧w=w∧q=q∧j=n∧i=h∧s.length=3∧k.length=3∧True)∧∀ (v r f:List Int) (t:Int),v.length=3→r.length=3→(∃ (a:Nat),0=(↑a:Int)∧a≤3∧3-a<1000000)∧∀ (z:Nat),z≤3→ay (decide ((↑z:Int)<(↑a.length:Int))) (v5.q2 z a.length (v5.q1 a z (v5.q2 z v.length (v5.q2 z r.length (v5.q1 a z (∀ (e m:Int),e=lS (a.getD z []) (v.getD z 0) (r.getD z 0)→m=ei (a.getD z []) (v.getD z 0) (r.getD z 0)→v5.q2 z a.length (v5.q2 z v.length (v5.q2 z r.length (v5.q1 a z (∀ (j i:Int),j=lS (a.getD z []) (v.getD z 0) (r.getD z 0)→i=ei (a.getD z []) (v.getD z 0) (r.getD z 0)→v5.q1 a z (∀ (s:List (List Int)) (k:Int),s=HM (a.getD z [])→k=iC (a.getD z [])→v5.q2 z a.length (v5.q1 a z (∀ (n:List (List Int)) (h:Int),n=HM (a.getD z [])→h=iC (a.getD z [])→ay (e !=j) (false=true∧True) (ay (m !=i) (false=true∧True) (ay (k !=h) (false=true∧True) (s.length≤1000∧n.length≤1000∧(∀ (x:bG.den),x∈s→List.length x≤1000)∧(∀ (x:bG.den),x∈n→List.length x≤1000)∧∀ (d:Bool),(d=true↔s=n)→ay (!d) (false=true∧True) (v5.q2 z a.length (List.length (a.getD z [])≤1000∧v5.q1 a z ((∀ (p:(aK).den),p∈a.getD z []→dD p)∧∀ (c:Bool),(c=true↔a.getD z []=a.getD z [])→ay (!c) (false=true∧True) (cn ((↑z:Int)+1)∧∃ (g:Nat),a=a∧v=v∧r=r∧(↑z:Int)+1=(↑g:Int)∧u=u∧lo=lo∧w=w∧q=q∧f=f∧t=t∧g≤3∧3-g<3-z)))))))))))))))))))) (true=true∧True)))) (by kernel_rfl) ?_
  unfold v5.q2 v5.q1
  intro b hb
  refine dH.2 (iG.2 ⟨fun e => ?_,fun _=>⟨rfl,trivial⟩⟩)
  rw[e] at hb
  clear e
  intro b2 EX
  refine dH.2 (iG.2 ⟨fun e => ?_,fun _=>⟨rfl,trivial⟩⟩)
  rw[e] at EX
  clear e
  have hs:Sh u lo q:=(VQ (l:=[pd u lo w q]) EX.symm).2 _ (bJ.2 rfl)
  refine⟨VQ hb.symm,hs,fun all r z h1 h2=>⟨⟨by omega,by omega,fun x1 r1 z1 _ _=>⟨by omega,by omega,fun x2 r2 z2 _ _=>⟨by omega,by omega,fun x3 r3 z3 _ _=>⟨_,_,_,_,rfl,rfl,rfl,rfl,rfl,rfl,rfl,rfl,rfl,rfl,rfl,rfl,trivial⟩⟩⟩⟩,fun A B r1 z1 a1 a2=>⟨⟨0,rfl,by omega,by omega⟩,fun i hi=>bR.2 ⟨fun hlt => ?_,fun _=>⟨rfl,trivial⟩⟩⟩⟩⟩
  have hx:qV (all.getD i []):=Et (by omega) h2
  have e1:(all.getD i []).length≤1000:=by have:=hx.1; omega
  have e2:(0:Int)≤(i:Int)∧(i:Int)<(all.length:Int):=⟨by omega,by omega⟩
  have e3:=hx.2
  have e4:(0:Int)≤(i:Int)∧(i:Int)<(A.length:Int):=⟨by omega,by omega⟩
  have e5:(0:Int)≤(i:Int)∧(i:Int)<(B.length:Int):=⟨by omega,by omega⟩
  have e6:(0:Int)≤((i:Nat):Int)+1:=by omega
  generalize all.getD i []=X at e1 e3 ⊢
  generalize A.getD i 0=x
  generalize B.getD i 0=y
  refine⟨e2,e1,e3,e4,e5,e1,e3,fun n e hn he=>⟨e2,e4,e5,e1,e3,fun m f hm hf=>⟨e1,e3,fun s g hs hg=>⟨e2,e1,e3,fun t h ht hh => ?_⟩⟩⟩⟩
  obtain rfl:n=m:=hn.trans hm.symm
  obtain rfl:e=f:=he.trans hf.symm
  obtain rfl:s=t:=hs.trans ht.symm
  obtain rfl:g=h:=hg.trans hh.symm
  obtain⟨l1,l2⟩:=Za X
  rw[← hs] at l1 l2
  exact cF.2 ⟨fun _=>cF.2 ⟨fun _=>cF.2 ⟨fun _=>⟨l1,l1,l2,l2,fun b hb=>Vv (hb.2 rfl) ⟨e2,e1,e1,e3,e3,fun b hb=>Vv (hb.2 rfl) ⟨⟨by omega,by omega⟩,i+1,rfl,rfl,rfl,rfl,rfl,rfl,rfl,rfl,rfl,rfl,by omega,by omega⟩⟩⟩,fun h=>(h rfl).elim⟩,fun h=>(h rfl).elim⟩,fun h=>(h rfl).elim⟩
end Go.Tv
end
