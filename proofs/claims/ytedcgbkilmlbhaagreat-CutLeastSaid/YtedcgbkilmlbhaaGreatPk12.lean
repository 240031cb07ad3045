import Derived.Test.YtedcgbkilmlbhaaGreatPk11
section
namespace Go.Tv
open Go Go.Di Go.Proofs
set_option maxRecDepth 100000
def D54:List TV→Dn
  | [.val (.int .i64 a),.val (.int .i64 b)]=>some ([],.res (iy (decide (a<b))) [] [],[])
  | _=>none
theorem v54:VI T0 Tryz.f84 [some .bool] D54:=by
  refine fF fun a => ?_
  unfold D54
  split
  rotate_left
  · trivial
  rename_i a b
  intro hp
  refine tH (A:=decide (a<b)=decide (a<b)∧True) (by kernel_rfl) ?_
  exact⟨rfl,trivial⟩
def mn (a b:Int):Int:=if b<a then b else a
def J53:List (Nat×LA):=[(4,.dep fun te _=>Yc te 0 fun l => .ex Nat fun i => .st { sl:=[(14,bg i),(5,bg (((l.drop 1).take i).foldl mn (l.getD 0 0)))],cB:=[i≤(l.drop 1).length],m:=(l.drop 1).length-i })]
def rR (n:Nat) (la ub:List Int) (k:Nat):List Int:=(List.range k).flatMap fun(j:Nat)=>if 3≤(stA la ub ((j:Int)-n)).2.2 then [(stA la ub ((j:Int)-n)).2.1-(stA la ub ((j:Int)-n)).1] else []
def sM (ua la ub lb:List Int) (x:Int) (q:List Int):List Int:=q.flatMap fun y=>rR ub.length (bk x ua la) (aX y ub lb) (ub.length+ua.length+1)
def dw (ua la qa ub lb qb:List Int):List Int:=qa.flatMap fun x=>sM ua la ub lb x qb
def JD (te:List TV) (tS:List TB) (k:List Int→List Int→List Int→List Int→List Int→List Int→LA):LA :=
  match te.getD 3 .unk,te.getD 4 .unk with
  | .ptr a _,.ptr b _=>match tS.getD a .none,tS.getD b .none with
    | .cells (.sl (.int .i64) ua _ :: .sl (.int .i64) la _::_ :: .sl (.int .i64) qa _::_),.cells (.sl (.int .i64) ub _ :: .sl (.int .i64) lb _::_ :: .sl (.int .i64) qb _::_)=>k ua la qa ub lb qb
    | _,_ => .un 0
  | _,_ => .un 0
def Oe (te:List TV) (tS:List TB) (k:Nat→List Int→Nat→List (Nat×Nat)→LA):LA :=
  match te.getD 2 .unk with
  | .ptr p _=>match tS.getD p .none with
    | .cells [.gZ]=>k p [] tS.length [(3,1)]
    | .cells [.sl (.int .i64) l (.nQ g)]=>k p l g []
    | _ => .un 0
  | _ => .un 0
def Ca (te:List TV) (i:Nat) (k:Int→LA):LA :=
  match te.getD i .unk with
  | .val (.int .i64 n)=>k n
  | _ => .un 0
def J52:List (Nat×LA) :=
  [(2,.dep fun te tS=>JD te tS fun ua la qa ub lb qb=>Oe te tS fun p base g own => .ex Nat fun i => .st { sl:=[(17,bg i)],pl:=[(p,[.sl cv (base++dw ua la (qa.take i) ub lb qb) (.nQ g)])],own:=own,cB:=[i≤qa.length],m:=qa.length-i }),
   (8,.dep fun te tS=>JD te tS fun ua la _ ub lb qb=>Oe te tS fun p base g own=>Ca te 6 fun x => .ex Nat fun i => .st { sl:=[(25,bg i)],pl:=[(p,[.sl cv (base++sM ua la ub lb x (qb.take i)) (.nQ g)])],own:=own,cB:=[i≤qb.length],m:=qb.length-i }),
   (14,.dep fun te tS=>JD te tS fun ua la _ ub lb _=>Oe te tS fun p base g own=>Ca te 6 fun x=>Ca te 8 fun y => .ex Nat fun k => .st { sl:=[(9,bg ((k:Int)-ub.length))],pl:=[(p,[.sl cv (base++rR ub.length (bk x ua la) (aX y ub lb) k) (.nQ g)])],own:=own,cB:=[k≤ub.length+ua.length+1],m:=ub.length+ua.length+1-k }),
   (18,.dep fun te tS=>JD te tS fun ua la _ ub lb _=>Ca te 6 fun x=>Ca te 8 fun y=>Ca te 9 fun s => .st { sl:=[(10,bg (stA (bk x ua la) (aX y ub lb) s).1),(11,bg (stA (bk x ua la) (aX y ub lb) s).2.1),(12,bg (stA (bk x ua la) (aX y ub lb) s).2.2)] })]
section
variable {n k i:Nat} {a b ua la ub lb q qb:List Int} {x:Int}
theorem Ec (h:3≤(stA a b ((k:Int)-n)).2.2):rR n a b k++[(stA a b ((k:Int)-n)).2.1-(stA a b ((k:Int)-n)).1]=rR n a b (k+1):=by
  rw[rR,rR,fN,List.flatMap_append,List.flatMap_singleton,if_pos h]
theorem H8 (h:¬ 3≤(stA a b ((k:Int)-n)).2.2):rR n a b k=rR n a b (k+1):=by
  rw[rR,rR,fN,List.flatMap_append,List.flatMap_singleton,if_neg h,eU]
theorem D9 {l:List Int} (h:i<l.length):l.take (i+1)=l.take i++[l.getD i 0]:=by
  rw[List.take_succ_eq_append_getElem h,aL,bK h,Option.getD_some]
theorem O4 (h:i<q.length):sM ua la ub lb x (q.take i)++rR ub.length (bk x ua la) (aX (q.getD i 0) ub lb) (ub.length+ua.length+1)=sM ua la ub lb x (q.take (i+1)):=by
  rw[D9 h,sM,sM,List.flatMap_append,List.flatMap_singleton]
theorem O5 (h:i<q.length):dw ua la (q.take i) ub lb qb++sM ua la ub lb (q.getD i 0) qb=dw ua la (q.take (i+1)) ub lb qb:=by
  rw[D9 h,dw,dw,List.flatMap_append,List.flatMap_singleton]
theorem Ed (n:Nat) (a b:List Int) (k:Nat):(rR n a b k).length≤k:=by
  refine aM (mE (c:=1) fun j _ => ?_) (by simp)
  split<;>simp
theorem Eb {p q:List Int} {w v:Int} (ha:Ok ua la w p) (hb:Ok ub lb v q) {r:List Int} (hr:r.length≤4):(sM ua la ub lb x r).length≤68:=by
  have:=ha.n8
  have:=hb.n8
  refine aM (mE (c:=17) fun j _ => ?_) (by omega)
  exact aM (Ed _ _ _ _) (by omega)
theorem yW {p:List Int} {w v:Int} (ha:Ok ua la w p) (hb:Ok ub lb v q) {r:List Int} (hr:r.length≤4):(dw ua la r ub lb q).length≤272:=by
  refine aM (mE (c:=68) fun j _ => ?_) (by omega)
  exact Eb ha hb (q_len hb)
end
theorem C7 {a b:List Int}:∀ i,i≤a.length→(dF a b 0 i).length=i
  | 0,_=>rfl
  | i+1,h=>by rw[dF,if_pos (by omega),bU,C7 i (by omega)]; rfl
theorem yV {ua la qa ub lb qb:List Int} {w v:Int} (ha:Ok ua la w qa) (hb:Ok ub lb v qb) (hw:ub.length≤ua.length):1≤(dw ua la qa ub lb qb).length:=by
  obtain⟨x,hx⟩:=List.exists_mem_of_ne_nil _ ha.ne
  obtain⟨y,hy⟩:=List.exists_mem_of_ne_nil _ hb.ne
  have l1:=(oa (n:=x) ha.len).2
  have l2:=(oa (n:=y) hb.len).1
  have h3:=hb.n3
  refine List.length_pos_of_mem (a:=(stA (bk x ua la) (aX y ub lb) 0).2.1-(stA (bk x ua la) (aX y ub lb) 0).1) ?_
  rw[dw,List.mem_flatMap]
  refine⟨x,hx,?_⟩
  rw[sM,List.mem_flatMap]
  refine⟨y,hy,?_⟩
  rw[rR,List.mem_flatMap]
  refine⟨ub.length,List.mem_range.2 (by omega),?_⟩
  have e:(((ub.length:Nat):Int)-(ub.length:Int))=0:=by omega
  rw[e,if_pos]
  · simp
  · rw[Ea,C7 _ (by omega)]; omega
theorem KB {r:List Int} {i:Nat} {z:Int} (h:i<r.length):(r.take (i+1)).foldl mn z=mn ((r.take i).foldl mn z) (r.getD i 0):=by
  rw[D9 h,List.foldl_append]; rfl
def DN (ua la qa ub lb qb:List Int):Int:=((dw ua la qa ub lb qb++dw ub lb qb ua la qa).drop 1).foldl mn ((dw ua la qa ub lb qb++dw ub lb qb ua la qa).getD 0 0)
def Ik (p q:PD):Int:=DN p.1 p.2.1 p.2.2.2.1 q.1 q.2.1 q.2.2.2.1
def lS (l:List PD) (a b:Int):Int:=if ei l a b=0 then Ik (l.getD a.toNat dP) (l.getD b.toNat dP) else 0
def XW:List TV→Dn
  | [.agg [.sl (.int .i64) u .no,.sl (.int .i64) l .no,.val (.int .i64 w),.sl (.int .i64) q .no]]=>some ([u.length≤1000,l.length≤1000],.ex (List Int) fun u' => .ex (List Int) fun l' => .ex Int fun w' => .ex (List Int) fun q' => .res (Zn u' l' w' q') [] [u'=u,l'=l,w'=w,q'=q],[])
  | _=>none
noncomputable def P0:gd:=(((((Q0.cA 61 fun a=>dS (XW a)).cA 59 fun a=>dS (HX a)).cA 78 fun a=>dS (D60 a)).cA 84 fun a=>dS (D54 a)).LC 82 Tryz.f82 J52).LC 83 Tryz.f83 J53
def ZV:List TV→Dn
  | [.sl (.pair (.sl (.int .i64)) (.pair (.sl (.int .i64)) (.pair (.int .i64) (.pair (.sl (.int .i64)) .unit)))) l .no,.val (.int .i64 a),.val (.int .i64 b)]=>some ([l.length≤1000,∀ p∈l,dD p],.ex Int fun x => .ex Int fun e => .res (.gI [bg x,bg e]) [] [x=lS l a b,e=ei l a b],[])
  | _=>none
def v35.q1 (p0 p1:List Int) (p2:Nat) (p3 p4:List Int) (p5:Nat) (p6 p7 p8:List Int) (p9:Nat) (mQ:List Int):Prop:=True∧p0.length≤1000∧p1.length≤1000∧lV p0∧lV p1∧(stA p0 p1 ((↑p2:Int)-(↑p3.length:Int))).1=(stA (bk (p4.getD p5 0) p6 p7) (aX (p8.getD p9 0) p3 mQ) ((↑p2:Int)-(↑p3.length:Int))).1∧(stA p0 p1 ((↑p2:Int)-(↑p3.length:Int))).2.1=(stA (bk (p4.getD p5 0) p6 p7) (aX (p8.getD p9 0) p3 mQ) ((↑p2:Int)-(↑p3.length:Int))).2.1∧(stA p0 p1 ((↑p2:Int)-(↑p3.length:Int))).2.2=(stA (bk (p4.getD p5 0) p6 p7) (aX (p8.getD p9 0) p3 mQ) ((↑p2:Int)-(↑p3.length:Int))).2.2∧True
def v35.q2 (p0 p1:List Int) (p2:Int) (p3:List Int) (p4:Prop):Prop:=p0=p0∧p1=p1∧p2=p2∧p3=p3∧p0=p0∧p1=p1∧p1.reverse=p1.reverse∧p0.reverse=p0.reverse∧p0.reverse=p0.reverse∧p1.reverse=p1.reverse∧p1=p1∧p0=p0∧p4
def v35.q3 (p0 p1:List Int) (p2:Int) (p3 p4 p5:List Int) (p6:Int) (p7:List Int) (p8:Prop):Prop:=v35.q2 p0 p1 p2 p3 (v35.q2 p4 p5 p6 p7 p8)
def v35.q4 (p0:List Int) (p1:Nat) (p2:List Int) (p3 p4:Nat) (p5:List Int) (p6:Nat) (p7:Prop):Prop:=p0.getD p1 0=p0.getD p1 0∧p2.getD p3 0=p2.getD p3 0∧(↑p4:Int)-(↑p5.length:Int)+1=(↑p6:Int)-(↑p5.length:Int)∧p0=p0∧(↑p0.length:Int)=(↑p0.length:Int)∧(↑p1:Int)=(↑p1:Int)∧true=true∧p0=p0∧p1=p1∧0=0∧p0.getD p1 0=p0.getD p1 0∧p2=p2∧(↑p2.length:Int)=(↑p2.length:Int)∧(↑p3:Int)=(↑p3:Int)∧true=true∧p2=p2∧p3=p3∧0=0∧p2.getD p3 0=p2.getD p3 0∧p5=p5∧(↑p5.length:Int)=(↑p5.length:Int) ∧ -(↑p5.length:Int) = -(↑p5.length:Int)∧p7
def v35.q5 (p0:Bool) (p1:List Int) (p2:Nat) (p3:List Int) (p4:Nat) (p5 p6 p7:List Int) (p8:Nat) (p9:List Int) (mQ Bt Hq:Bool) (E5:List Int):Prop:=True∧ay p0 (v35.q1 E5 p1 p2 p1 p3 p4 p5 p6 p7 p8 p9) (ay mQ (v35.q1 E5 p9.reverse p2 p1 p3 p4 p5 p6 p7 p8 p9) (ay Bt (v35.q1 E5 p1.reverse p2 p1 p3 p4 p5 p6 p7 p8 p9) (ay Hq (v35.q1 E5 p9 p2 p1 p3 p4 p5 p6 p7 p8 p9) False)))
def v35.q6 (p0 p1:Bool) (p2 p3:List Int) (p4:Nat) (p5:List Int) (p6:Nat) (p7 p8:List Int) (p9:Nat) (mQ:List Int) (Bt Hq E5 Z5 p15 p16:Bool):Prop:=ay p0 (v35.q5 p1 p3 p4 p5 p6 p7 p2 p8 p9 mQ Bt Hq E5 p2) (ay Z5 (v35.q5 p1 p3 p4 p5 p6 p7 p2 p8 p9 mQ Bt Hq E5 p7.reverse) (ay p15 (v35.q5 p1 p3 p4 p5 p6 p7 p2 p8 p9 mQ Bt Hq E5 p2.reverse) (ay p16 (v35.q5 p1 p3 p4 p5 p6 p7 p2 p8 p9 mQ Bt Hq E5 p7) False)))
def v35.q7 (p0 p1:List Int) (p2:Int) (p3 p4 p5:List Int) (p6:Int) (p7:List Int) (p8 p9 mQ:Nat):Prop:=v35.q3 p0 p1 p2 p3 p4 p5 p6 p7 (v35.q3 p0 p1 p2 p3 p4 p5 p6 p7 (v35.q3 p4 p5 p6 p7 p0 p1 p2 p3 (p8≤p9∧p9-p8<p9-mQ)))
def v35.q8 (p0:List Int) (p1:Nat) (p2:List Int) (p3 p4:Nat) (p5 p6 p7 p8 p9:List Int) (mQ:Nat) (Bt:Prop):Prop:=p0.getD p1 0=p0.getD p1 0∧p0=p0∧(↑p0.length:Int)=(↑p0.length:Int)∧(↑p1:Int)=(↑p1:Int)∧true=true∧p0=p0∧p1=p1∧0=0∧p0.getD p1 0=p0.getD p1 0∧p2=p2∧(↑p2.length:Int)=(↑p2.length:Int)∧(↑p3:Int)+1=(↑p4:Int)∧p5++sM p6 p7 p8 p9 (p0.getD p1 0) (List.take p3 p2)++rR p8.length (bk (p0.getD p1 0) p6 p7) (aX (p2.getD p3 0) p8 p9) mQ=p5++sM p6 p7 p8 p9 (p0.getD p1 0) (List.take p4 p2)∧Bt
def v35.q9 (p0:Nat) (p1 p2 p3 p4 p5 p6 p7:List Int) (p8:Nat) (p9:Prop):Prop:=(0≤(↑p0:Int)∧(↑p0:Int)<(↑p1.length:Int))∧cn (-(↑p2.length:Int))∧(∃ (a:Nat),-(↑p2.length:Int)=(↑a:Int)-(↑p2.length:Int)∧p3++sM p4 p5 p2 p6 (p7.getD p8 0) (List.take p0 p1)=p3++sM p4 p5 p2 p6 (p7.getD p8 0) (List.take p0 p1)++rR p2.length (bk (p7.getD p8 0) p4 p5) (aX (p1.getD p0 0) p2 p6) a∧a≤p2.length+p4.length+1∧p2.length+p4.length+1-a<1000000)∧p9
def v35.Wq (p0 p1:List Int) (p2:Nat) (p3 p4 p5 p6:List Int) (p7 p8 p9:Nat) (mQ:Prop):Prop:=List.drop 1 (dw p0 p1 (List.take p2 p3) p4 p5 p6++dw p4 p5 (List.take p7 p6) p0 p1 p3)=List.drop 1 (dw p0 p1 (List.take p2 p3) p4 p5 p6++dw p4 p5 (List.take p7 p6) p0 p1 p3)∧(↑(List.drop 1 (dw p0 p1 (List.take p2 p3) p4 p5 p6++dw p4 p5 (List.take p7 p6) p0 p1 p3)).length:Int)=(↑(List.drop 1 (dw p0 p1 (List.take p2 p3) p4 p5 p6++dw p4 p5 (List.take p7 p6) p0 p1 p3)).length:Int)∧(↑p8:Int)+1=(↑p9:Int)∧dw p0 p1 (List.take p2 p3) p4 p5 p6++dw p4 p5 (List.take p7 p6) p0 p1 p3=dw p0 p1 (List.take p2 p3) p4 p5 p6++dw p4 p5 (List.take p7 p6) p0 p1 p3∧mQ
def v35.Wp (p0:List Int) (p1:Nat) (p2 p3 p4:List Int) (p5:Nat) (p6 p7:List Int) (p8:Nat) (p9:List Int) (mQ:Prop):Prop:=cn ((stA (bk (p0.getD p1 0) p2 p3) (aX (p4.getD p5 0) p6 p7) ((↑p8:Int)-(↑p6.length:Int))).2.1-(stA (bk (p0.getD p1 0) p2 p3) (aX (p4.getD p5 0) p6 p7) ((↑p8:Int)-(↑p6.length:Int))).1)∧(p9++sM p2 p3 p6 p7 (p0.getD p1 0) (List.take p5 p4)++rR p6.length (bk (p0.getD p1 0) p2 p3) (aX (p4.getD p5 0) p6 p7) p8).length+1≤1000000000∧cn ((↑p8:Int)-(↑p6.length:Int)+1)∧mQ
def v35.RE (p0 p1:List Int) (p2:Int) (p3 p4 p5:List Int) (p6:Int) (p7:List Int) (p8 p9 mQ:Nat):Prop:=v35.q3 p0 p1 p2 p3 p4 p5 p6 p7 (v35.q3 p0 p1 p2 p3 p4 p5 p6 p7 (p8≤p9∧p9-p8<p9-mQ))
def v35.Sb (p0:Nat) (p1 p2 p3 p4 p5 p6 p7:List Int) (p8:Prop):Prop:=(0≤(↑p0:Int)∧(↑p0:Int)<(↑p1.length:Int))∧(∃ (a:Nat),0=(↑a:Int)∧p2=p2++sM p3 p4 p5 p6 (p1.getD p0 0) (List.take a p7)∧a≤p7.length∧p7.length-a<1000000)∧p8
def v35.q14 (p0:List (aK).den) (p1:Int) (p2:Prop):Prop:=(0≤p1∧p1<(↑p0.length:Int))∧List.length (p0.getD p1.toNat ([],[],0,[],())).1≤1000∧List.length (p0.getD p1.toNat ([],[],0,[],())).2.1≤1000∧p2
theorem v35:VI P0 Tryz.f35 [some cv,some cv] ZV 1:=by
  refine fF fun a => ?_
  unfold ZV
  split
  rotate_left
  · trivial
  rename_i l x y
  intro hp
  refine tH (A:=l.length≤1000∧(∀ (p:(aK).den),p∈l→dD p)∧∀ (a:Int),a=ei l x y→ay (a !=0) (∃ (z:Int),∃ (k:Int),0=z∧a=k∧z=lS l x y∧k=ei l x y∧True) (v35.q14 l x (∀ (a z:List Int) (k:Int) (u:List Int),a=(l.getD x.toNat ([],[],0,[],())).1→z=(l.getD x.toNat ([],[],0,[],())).2.1→k=(l.getD x.toNat ([],[],0,[],())).2.2.1→u=(l.getD x.toNat ([],[],0,[],())).2.2.2.1→v35.q14 l y (∀ (w r:List Int) (i:Int) (v:List Int),w=(l.getD y.toNat ([],[],0,[],())).1→r=(l.getD y.toNat ([],[],0,[],())).2.1→i=(l.getD y.toNat ([],[],0,[],())).2.2.1→v=(l.getD y.toNat ([],[],0,[],())).2.2.2.1→(∃ (t:Nat),0=(↑t:Int)∧[]=dw a z (List.take t u) w r v∧t≤u.length∧u.length-t<1000000)∧∀ (t:Nat),t≤u.length→ay (decide ((↑t:Int)<(↑u.length:Int))) (v35.Sb t u (dw a z (List.take t u) w r v) a z w r v (∀ (s:Nat),s≤v.length→ay (decide ((↑s:Int)<(↑v.length:Int))) (v35.q9 s v w (dw a z (List.take t u) w r v) a z r u t (∀ (m:Nat),m≤w.length+a.length+1→ay (decide ((↑m:Int)-(↑w.length:Int)≤(↑a.length:Int))) (v35.q6 (decide (u.getD t 0=0)) (decide (v.getD s 0=0)) z w m u t a v s r (decide (v.getD s 0=1)) (decide (v.getD s 0=2)) (decide (v.getD s 0=3)) (decide (u.getD t 0=1)) (decide (u.getD t 0=2)) (decide (u.getD t 0=3))∧ay (decide ((stA (bk (u.getD t 0) a z) (aX (v.getD s 0) w r) ((↑m:Int)-(↑w.length:Int))).2.2≥3)) (v35.Wp u t a z v s w r m (dw a z (List.take t u) w r v) (∃ (n:Nat),v35.q4 u t v s m w n (dw a z (List.take t u) w r v++sM a z w r (u.getD t 0) (List.take s v)++rR w.length (bk (u.getD t 0) a z) (aX (v.getD s 0) w r) m++[(stA (bk (u.getD t 0) a z) (aX (v.getD s 0) w r) ((↑m:Int)-(↑w.length:Int))).2.1-(stA (bk (u.getD t 0) a z) (aX (v.getD s 0) w r) ((↑m:Int)-(↑w.length:Int))).1]=dw a z (List.take t u) w r v++sM a z w r (u.getD t 0) (List.take s v)++rR w.length (bk (u.getD t 0) a z) (aX (v.getD s 0) w r) n∧v35.RE a z k u w r i v n (w.length+a.length+1) m))) (cn ((↑m:Int)-(↑w.length:Int)+1)∧∃ (n:Nat),v35.q4 u t v s m w n (dw a z (List.take t u) w r v++sM a z w r (u.getD t 0) (List.take s v)++rR w.length (bk (u.getD t 0) a z) (aX (v.getD s 0) w r) m=dw a z (List.take t u) w r v++sM a z w r (u.getD t 0) (List.take s v)++rR w.length (bk (u.getD t 0) a z) (aX (v.getD s 0) w r) n∧v35.RE a z k u w r i v n (w.length+a.length+1) m))) (cn ((↑s:Int)+1)∧∃ (n:Nat),v35.q8 u t v s n (dw a z (List.take t u) w r v) a z w r m (v35.RE a z k u w r i v n v.length s)))) (cn ((↑t:Int)+1)∧∃ (m:Nat),u=u∧(↑u.length:Int)=(↑u.length:Int)∧(↑t:Int)+1=(↑m:Int)∧dw a z (List.take t u) w r v++sM a z w r (u.getD t 0) (List.take s v)=dw a z (List.take m u) w r v∧v35.RE a z k u w r i v m u.length t))) ((∃ (s:Nat),0=(↑s:Int)∧dw a z (List.take t u) w r v=dw a z (List.take t u) w r v++dw w r (List.take s v) a z u∧s≤v.length∧v.length-s<1000000)∧∀ (s:Nat),s≤v.length→ay (decide ((↑s:Int)<(↑v.length:Int))) (v35.Sb s v (dw a z (List.take t u) w r v++dw w r (List.take s v) a z u) w r a z u (∀ (m:Nat),m≤u.length→ay (decide ((↑m:Int)<(↑u.length:Int))) (v35.q9 m u a (dw a z (List.take t u) w r v++dw w r (List.take s v) a z u) w r z v s (∀ (n:Nat),n≤a.length+w.length+1→ay (decide ((↑n:Int)-(↑a.length:Int)≤(↑w.length:Int))) (v35.q6 (decide (v.getD s 0=0)) (decide (u.getD m 0=0)) r a n v s w u m z (decide (u.getD m 0=1)) (decide (u.getD m 0=2)) (decide (u.getD m 0=3)) (decide (v.getD s 0=1)) (decide (v.getD s 0=2)) (decide (v.getD s 0=3))∧ay (decide ((stA (bk (v.getD s 0) w r) (aX (u.getD m 0) a z) ((↑n:Int)-(↑a.length:Int))).2.2≥3)) (v35.Wp v s w r u m a z n (dw a z (List.take t u) w r v++dw w r (List.take s v) a z u) (∃ (j:Nat),v35.q4 v s u m n a j (dw a z (List.take t u) w r v++dw w r (List.take s v) a z u++sM w r a z (v.getD s 0) (List.take m u)++rR a.length (bk (v.getD s 0) w r) (aX (u.getD m 0) a z) n++[(stA (bk (v.getD s 0) w r) (aX (u.getD m 0) a z) ((↑n:Int)-(↑a.length:Int))).2.1-(stA (bk (v.getD s 0) w r) (aX (u.getD m 0) a z) ((↑n:Int)-(↑a.length:Int))).1]=dw a z (List.take t u) w r v++dw w r (List.take s v) a z u++sM w r a z (v.getD s 0) (List.take m u)++rR a.length (bk (v.getD s 0) w r) (aX (u.getD m 0) a z) j∧v35.q7 a z k u w r i v j (a.length+w.length+1) n))) (cn ((↑n:Int)-(↑a.length:Int)+1)∧∃ (j:Nat),v35.q4 v s u m n a j (dw a z (List.take t u) w r v++dw w r (List.take s v) a z u++sM w r a z (v.getD s 0) (List.take m u)++rR a.length (bk (v.getD s 0) w r) (aX (u.getD m 0) a z) n=dw a z (List.take t u) w r v++dw w r (List.take s v) a z u++sM w r a z (v.getD s 0) (List.take m u)++rR a.length (bk (v.getD s 0) w r) (aX (u.getD m 0) a z) j∧v35.q7 a z k u w r i v j (a.length+w.length+1) n))) (cn ((↑m:Int)+1)∧∃ (j:Nat),v35.q8 v s u m j (dw a z (List.take t u) w r v++dw w r (List.take s v) a z u) w r a z n (v35.q7 a z k u w r i v j u.length m)))) (cn ((↑s:Int)+1)∧∃ (n:Nat),v=v∧(↑v.length:Int)=(↑v.length:Int)∧(↑s:Int)+1=(↑n:Int)∧dw a z (List.take t u) w r v++dw w r (List.take s v) a z u++sM w r a z (v.getD s 0) (List.take m u)=dw a z (List.take t u) w r v++dw w r (List.take n v) a z u∧v35.q7 a z k u w r i v n v.length s))) (((0:Int)≤0∧0<(↑(dw a z (List.take t u) w r v++dw w r (List.take s v) a z u).length:Int))∧((0:Int)≤1∧1≤(↑(dw a z (List.take t u) w r v++dw w r (List.take s v) a z u).length:Int))∧(∃ (m:Nat),(dw a z (List.take t u) w r v++dw w r (List.take s v) a z u).getD 0 0=List.foldl mn ((dw a z (List.take t u) w r v++dw w r (List.take s v) a z u).getD 0 0) (List.take m (List.drop 1 (dw a z (List.take t u) w r v++dw w r (List.take s v) a z u)))∧0=(↑m:Int)∧m≤(List.drop 1 (dw a z (List.take t u) w r v++dw w r (List.take s v) a z u)).length∧(List.drop 1 (dw a z (List.take t u) w r v++dw w r (List.take s v) a z u)).length-m<1000000)∧∀ (m:Nat),m≤(List.drop 1 (dw a z (List.take t u) w r v++dw w r (List.take s v) a z u)).length→ay (decide ((↑m:Int)<(↑(List.drop 1 (dw a z (List.take t u) w r v++dw w r (List.take s v) a z u)).length:Int))) ((0≤(↑m:Int)∧(↑m:Int)<(↑(List.drop 1 (dw a z (List.take t u) w r v++dw w r (List.take s v) a z u)).length:Int))∧ay (decide ((List.drop 1 (dw a z (List.take t u) w r v++dw w r (List.take s v) a z u)).getD m 0<List.foldl mn ((dw a z (List.take t u) w r v++dw w r (List.take s v) a z u).getD 0 0) (List.take m (List.drop 1 (dw a z (List.take t u) w r v++dw w r (List.take s v) a z u))))) (cn ((↑m:Int)+1)∧∃ (n:Nat),(0:Int)=0∧(List.drop 1 (dw a z (List.take t u) w r v++dw w r (List.take s v) a z u)).getD m 0=List.foldl mn ((dw a z (List.take t u) w r v++dw w r (List.take s v) a z u).getD 0 0) (List.take n (List.drop 1 (dw a z (List.take t u) w r v++dw w r (List.take s v) a z u)))∧v35.Wq a z t u w r v s m n (v35.q7 a z k u w r i v n (List.drop 1 (dw a z (List.take t u) w r v++dw w r (List.take s v) a z u)).length m)) (cn ((↑m:Int)+1)∧∃ (n:Nat),(0:Int)=0∧List.foldl mn ((dw a z (List.take t u) w r v++dw w r (List.take s v) a z u).getD 0 0) (List.take m (List.drop 1 (dw a z (List.take t u) w r v++dw w r (List.take s v) a z u)))=List.foldl mn ((dw a z (List.take t u) w r v++dw w r (List.take s v) a z u).getD 0 0) (List.take n (List.drop 1 (dw a z (List.take t u) w r v++dw w r (List.take s v) a z u)))∧v35.Wq a z t u w r v s m n (v35.q7 a z k u w r i v n (List.drop 1 (dw a z (List.take t u) w r v++dw w r (List.take s v) a z u)).length m))) (∃ (n:Int),∃ (j:Int),List.foldl mn ((dw a z (List.take t u) w r v++dw w r (List.take s v) a z u).getD 0 0) (List.take m (List.drop 1 (dw a z (List.take t u) w r v++dw w r (List.take s v) a z u)))=n∧0=j∧n=lS l x y∧j=ei l x y∧True))))))) (by kernel_rfl) ?_
  unfold v35.q14 v35.Sb v35.RE v35.Wp v35.Wq v35.q9 v35.q8 v35.q7 v35.q6 v35.q5 v35.q4 v35.q3 v35.q2 v35.q1
  obtain⟨h1,h2,-⟩:=hp
  simp only[cF,bR,eq_self,true_and,and_true]
  refine⟨h1,h2,fun e he=>⟨fun e0 => ?_,fun e1=>⟨0,e,rfl,rfl,by rw[lS,if_neg (he▸e1)],he⟩⟩⟩
  subst he
  obtain⟨k1,k2,k3,k4,k5,k6,k7⟩:=Ks e0
  have o1:s8 (l.getD x.toNat dP):=eA (by omega) k2
  have o2:s8 (l.getD y.toNat dP):=eA (by omega) k2
  have s1:=Ij o1
  have s2:=Ij o2
  refine⟨⟨k3,k4⟩,s1.1,s1.2.1,fun ua la wa qa a1 a2 a3 a4=>⟨⟨k5,k6⟩,s2.1,s2.2.1,fun ub lb wb qb b1 b2 b3 b4 => ?_⟩⟩
  have h1:Ok ua la wa qa:=by rw[a1,a2,a3,a4]; exact o1
  have h2:Ok ub lb wb qb:=by rw[b1,b2,b3,b4]; exact o2
  have hR:lS l x y=DN ua la qa ub lb qb:=by rw[lS,if_pos e0,a1,a2,a4,b1,b2,b4]; rfl
  rw[hR]
  clear hR a1 a2 a3 a4 b1 b2 b3 b4 o1 o2 s1 s2
  have Z1:=xJ h1
  have Zq:=xJ h2
  have n1:=h1.n8
  have n2:=h2.n8
  have q1:=q_len h1
  have q2:=q_len h2
  have c1:ua.length≤1000:=Z1.1
  have c2:la.length≤1000:=Z1.2.1
  have c3:ub.length≤1000:=Zq.1
  have c4:lb.length≤1000:=Zq.2.1
  have i1:lV ua:=h1.hu
  have i2:lV la:=h1.hl
  have i3:lV ub:=h2.hu
  have i4:lV lb:=h2.hl
  have i5:lV ua.reverse:=fun x hx=>h1.hu x (by simpa using hx)
  have i6:lV la.reverse:=fun x hx=>h1.hl x (by simpa using hx)
  have i7:lV ub.reverse:=fun x hx=>h2.hu x (by simpa using hx)
  have i8:lV lb.reverse:=fun x hx=>h2.hl x (by simpa using hx)
  refine⟨⟨0,rfl,by simp[dw],by omega,by first | omega | (dsimp only; omega)⟩,fun i hi=>⟨fun ET => ?_,fun ET => ?_⟩⟩
  · have N1:i<qa.length:=by omega
    have hx:=h1.B5 _ (fo N1)
    have lx:=yW (ua:=ua) (la:=la) h1 h2 (r:=qa.take i) (by rw[gq]; omega)
    refine⟨⟨by omega,by omega⟩,⟨0,rfl,by simp[sM],by omega,by first | omega | (dsimp only; omega)⟩,fun j hj=>⟨fun hjl => ?_,fun hjl => ?_⟩⟩
    · have N0:j<qb.length:=by omega
      have hy:=h2.B5 _ (fo N0)
      have ly:=Eb (ua:=ua) (la:=la) (ub:=ub) (lb:=lb) (x:=qa.getD i 0) h1 h2 (r:=qb.take j) (by rw[gq]; omega)
      refine⟨⟨by omega,by omega⟩,by simp only[cn]; omega,⟨0,by omega,by simp[rR],by omega,by first | omega | (dsimp only; omega)⟩,fun k hk=>⟨fun hkl => ?_,fun hkl => ?_⟩⟩
      · have ls:=Ed ub.length (bk (qa.getD i 0) ua la) (aX (qb.getD j 0) ub lb) k
        have st:=wI ((k:Int)-(ub.length:Int)) (qW (n:=qa.getD i 0) (h1.hu) (h1.hl)).2 (qW (n:=qb.getD j 0) (h2.hu) (h2.hl)).1
        refine⟨?_,fun h3=>⟨by simp only[cn]; omega,by simp only[bU]; omega,by simp only[cn]; omega,k+1,by omega,by rw[eV,Ec h3],by omega,by first | omega | (dsimp only; omega)⟩,fun h3=>⟨by simp only[cn]; omega,k+1,by omega,by rw[H8 h3],by omega,by first | omega | (dsimp only; omega)⟩⟩
        revert hx hy
        generalize qa.getD i 0=x
        generalize qb.getD j 0=y
        intro hx hy
        rcases four hx with rfl | rfl | rfl | rfl<;>rcases four hy with rfl | rfl | rfl | rfl<;>simp[bk,aX,c1,c2,c3,c4,i1,i2,i3,i4,i5,i6,i7,i8]
      · rw[show k=ub.length+ua.length+1 by omega]
        exact⟨by simp only[cn]; omega,j+1,by omega,by rw[eV,O4 N0],by omega,by first | omega | (dsimp only; omega)⟩
    · have e:sM ua la ub lb (qa.getD i 0) (qb.take j)=sM ua la ub lb (qa.getD i 0) qb:=by rw[show j=qb.length by omega,dc]
      rw[e]
      exact⟨by simp only[cn]; omega,i+1,by omega,by rw[O5 N1],by omega,by first | omega | (dsimp only; omega)⟩
  · have e0:dw ua la (qa.take i) ub lb qb=dw ua la qa ub lb qb:=by rw[show i=qa.length by omega,dc]
    have bs:=yW (ua:=ua) (la:=la) h1 h2 (r:=qa) (q_len h1)
    rw[e0]
    clear e0 ET hi
    refine⟨⟨0,rfl,by simp[dw],by omega,by first | omega | (dsimp only; omega)⟩,fun i hi=>⟨fun ET => ?_,fun ET => ?_⟩⟩
    · have N1:i<qb.length:=by omega
      have hx:=h2.B5 _ (fo N1)
      have lx:=yW (ua:=ub) (la:=lb) h2 h1 (r:=qb.take i) (by rw[gq]; omega)
      refine⟨⟨by omega,by omega⟩,⟨0,rfl,by simp[sM],by omega,by first | omega | (dsimp only; omega)⟩,fun j hj=>⟨fun hjl => ?_,fun hjl => ?_⟩⟩
      · have N0:j<qa.length:=by omega
        have hy:=h1.B5 _ (fo N0)
        have ly:=Eb (ua:=ub) (la:=lb) (ub:=ua) (lb:=la) (x:=qb.getD i 0) h2 h1 (r:=qa.take j) (by rw[gq]; omega)
        refine⟨⟨by omega,by omega⟩,by simp only[cn]; omega,⟨0,by omega,by simp[rR],by omega,by first | omega | (dsimp only; omega)⟩,fun k hk=>⟨fun hkl => ?_,fun hkl => ?_⟩⟩
        · have ls:=Ed ua.length (bk (qb.getD i 0) ub lb) (aX (qa.getD j 0) ua la) k
          have st:=wI ((k:Int)-(ua.length:Int)) (qW (n:=qb.getD i 0) (h2.hu) (h2.hl)).2 (qW (n:=qa.getD j 0) (h1.hu) (h1.hl)).1
          refine⟨?_,fun h3=>⟨by simp only[cn]; omega,by simp only[bU]; omega,by simp only[cn]; omega,k+1,by omega,by rw[eV,Ec h3],by omega,by first | omega | (dsimp only; omega)⟩,fun h3=>⟨by simp only[cn]; omega,k+1,by omega,by rw[H8 h3],by omega,by first | omega | (dsimp only; omega)⟩⟩
          revert hx hy
          generalize qb.getD i 0=x
          generalize qa.getD j 0=y
          intro hx hy
          rcases four hx with rfl | rfl | rfl | rfl<;>rcases four hy with rfl | rfl | rfl | rfl<;>simp[bk,aX,c1,c2,c3,c4,i1,i2,i3,i4,i5,i6,i7,i8]
        · rw[show k=ua.length+ub.length+1 by omega]
          exact⟨by simp only[cn]; omega,j+1,by omega,by rw[eV,O4 N0],by omega,by first | omega | (dsimp only; omega)⟩
      · have e:sM ub lb ua la (qb.getD i 0) (qa.take j)=sM ub lb ua la (qb.getD i 0) qa:=by rw[show j=qa.length by omega,dc]
        rw[e]
        exact⟨by simp only[cn]; omega,i+1,by omega,by rw[eV,O5 N1],by omega,by first | omega | (dsimp only; omega)⟩
    · have e1:dw ub lb (qb.take i) ua la qa=dw ub lb qb ua la qa:=by rw[show i=qb.length by omega,dc]
      rw[e1]
      have bs2:=yW (ua:=ub) (la:=lb) h2 h1 (r:=qb) (q_len h2)
      have hne:1≤(dw ua la qa ub lb qb++dw ub lb qb ua la qa).length:=by
        rw[bU]
        by_cases hw:ub.length≤ua.length
        · have:=yV h1 h2 hw; omega
        · have:=yV h2 h1 (by omega); omega
      have hle:(dw ua la qa ub lb qb++dw ub lb qb ua la qa).length≤544:=by rw[bU]; omega
      unfold DN
      generalize dw ua la qa ub lb qb++dw ub lb qb ua la qa=L at hne hle
      have hd:(L.drop 1).length≤544:=by rw[List.length_drop]; omega
      generalize L.drop 1=r at hd
      generalize L.getD 0 0=z
      refine⟨⟨by omega,by omega⟩,⟨by omega,by omega⟩,⟨0,rfl,rfl,by omega,by first | omega | (dsimp only; omega)⟩,fun a ha=>⟨fun hl=>⟨⟨by omega,by omega⟩,fun hm=>⟨by simp only[cn]; omega,a+1,by rw[KB (by omega),mn,if_pos hm],by omega,by omega,by first | omega | (dsimp only; omega)⟩,fun hm=>⟨by simp only[cn]; omega,a+1,by rw[KB (by omega),mn,if_neg hm],by omega,by omega,by first | omega | (dsimp only; omega)⟩⟩,fun hl=>⟨_,_,rfl,rfl,by rw[show a=r.length by omega,dc],e0.symm⟩⟩⟩
end Go.Tv
end
section
namespace Go.Tv
open Go Go.Di Go.Proofs
set_option maxRecDepth 100000
def rl (L:List Int):Int:=L.foldl mn 18
section
variable (p q:PD)
def r3 (x y k:Nat):List Int:=rR 8 (bk (p.2.2.2.1.getD x 0) p.1 p.2.1) (aX (q.2.2.2.1.getD y 0) q.1 q.2.1) k
def r2 (x y:Nat):List Int:=(q.2.2.2.1.take y).flatMap fun v=>rR 8 (bk (p.2.2.2.1.getD x 0) p.1 p.2.1) (aX v q.1 q.2.1) 17
def r1 (x:Nat):List Int:=(p.2.2.2.1.take x).flatMap fun u=>q.2.2.2.1.flatMap fun v=>rR 8 (bk u p.1 p.2.1) (aX v q.1 q.2.1) 17
def oB:Int:=rl (r1 p q p.2.2.2.1.length)
end
section
variable {p q:PD} {x y:Nat}
theorem Uf (h:y<q.2.2.2.1.length):r2 p q x y++r3 p q x y 17=r2 p q x (y+1):=by
  rw[r2,r2,jB 0 h,List.flatMap_append,r3]; simp
theorem Ug (h:x<p.2.2.2.1.length):r1 p q x++r2 p q x q.2.2.2.1.length=r1 p q (x+1):=by
  rw[r1,r1,jB 0 h,List.flatMap_append,r2,dc]; simp
theorem YA {L:List Int} {v:Int}:rl (L++[v])=mn (rl L) v:=by rw[rl,rl,List.foldl_append]; rfl
end
def P1:gd:=((T0.cA 81 fun a=>dS (ZW a)).cA 117 fun a=>dS (D62 a)).cA 118 fun a=>dS (D64 a)
def D85:List TV→Dn
  | [.agg [.sl (.int .i64) ua .no,.sl (.int .i64) la .no,.val (.int .i64 wa),.sl (.int .i64) qa .no],.agg [.sl (.int .i64) ub .no,.sl (.int .i64) lb .no,.val (.int .i64 wb),.sl (.int .i64) qb .no]]=>some ([Ok ua la wa qa,Ok ub lb wb qb],.ex Int fun n => .res (bg n) [] [n=oB (pd ua la wa qa) (pd ub lb wb qb)],
    [(4,.ex Nat fun x => .ex Int fun n => .st { sl:=[(5,bg n),(6,bg x)],cB:=[x≤qa.length,n=rl (r1 (pd ua la wa qa) (pd ub lb wb qb) x)],m:=qa.length-x }),
     (9,.dep fun te _=>jx te 6 fun x => .ex Nat fun y => .ex Int fun n => .st { sl:=[(5,bg n),(7,bg y)],cB:=[y≤qb.length,n=rl (r1 (pd ua la wa qa) (pd ub lb wb qb) x++r2 (pd ua la wa qa) (pd ub lb wb qb) x y)],m:=qb.length-y }),
     (14,.dep fun te _=>jx te 6 fun x=>jx te 7 fun y => .ex Nat fun k => .ex Int fun n => .st { sl:=[(5,bg n),(8,bg ((k:Int)-8))],cB:=[k≤17,n=rl (r1 (pd ua la wa qa) (pd ub lb wb qb) x++r2 (pd ua la wa qa) (pd ub lb wb qb) x y++r3 (pd ua la wa qa) (pd ub lb wb qb) x y k)],m:=17-k })])
  | _=>none
def v85.q1 (p0 p1 p2:Nat) (p3 p4 p5 p6:List cv.den) (p7:Int) (p8 p9:List cv.den) (mQ Bt:Int):Prop:=cn ((↑p0:Int)-8+1)∧∃ (a:Nat),∃ (x:Int),(0:Int)=0∧Bt=x∧(↑p1:Int)=(↑p1:Int)∧(↑p2:Int)=(↑p2:Int)∧(↑p0:Int)-8+1=(↑a:Int)-8∧(↑p1:Int)=(↑p1:Int)∧p3=p3∧(↑p3.length:Int)=(↑p3.length:Int)∧true=true∧(↑p2:Int)=(↑p2:Int)∧p4=p4∧(↑p4.length:Int)=(↑p4.length:Int)∧true=true∧p5=p5∧p6=p6∧p7=p7∧p3=p3∧p8=p8∧p9=p9∧mQ=mQ∧p4=p4∧a≤17∧x=rl (r1 (pd p5 p6 p7 p3) (pd p8 p9 mQ p4) p1++r2 (pd p5 p6 p7 p3) (pd p8 p9 mQ p4) p1 p2++r3 (pd p5 p6 p7 p3) (pd p8 p9 mQ p4) p1 p2 a)∧17-a<17-p0
theorem v85:VI P1 Tryz.f85 [some cv] D85:=by
  refine fF fun a => ?_
  unfold D85
  split
  rotate_left
  · trivial
  rename_i ua la wa qa ub lb wb qb
  intro hp
  refine tH (A:=(∃ (a:Nat),∃ (u:Int),18=u∧0=(↑a:Int)∧a≤qa.length∧u=rl (r1 (pd ua la wa qa) (pd ub lb wb qb) a)∧qa.length-a<1000000)∧∀ (a:Nat) (u:Int),a≤qa.length→u=rl (r1 (pd ua la wa qa) (pd ub lb wb qb) a)→ay (decide ((↑a:Int)<(↑qa.length:Int))) ((∃ (x:Nat),∃ (v:Int),u=v∧0=(↑x:Int)∧x≤qb.length∧v=rl (r1 (pd ua la wa qa) (pd ub lb wb qb) a++r2 (pd ua la wa qa) (pd ub lb wb qb) a x)∧qb.length-x<1000000)∧∀ (x:Nat) (v:Int),x≤qb.length→v=rl (r1 (pd ua la wa qa) (pd ub lb wb qb) a++r2 (pd ua la wa qa) (pd ub lb wb qb) a x)→ay (decide ((↑x:Int)<(↑qb.length:Int))) ((∃ (y:Nat),∃ (z:Int),v=z∧(-8:Int)=(↑y:Int)-8∧y≤17∧z=rl (r1 (pd ua la wa qa) (pd ub lb wb qb) a++r2 (pd ua la wa qa) (pd ub lb wb qb) a x++r3 (pd ua la wa qa) (pd ub lb wb qb) a x y)∧17-y<1000000)∧∀ (y:Nat) (z:Int),y≤17→z=rl (r1 (pd ua la wa qa) (pd ub lb wb qb) a++r2 (pd ua la wa qa) (pd ub lb wb qb) a x++r3 (pd ua la wa qa) (pd ub lb wb qb) a x y)→ay (decide ((↑y:Int)-8≤8)) ((0≤(↑a:Int)∧(↑a:Int)<(↑qa.length:Int))∧ua.length≤1000∧la.length≤1000∧qa.length≤1000∧0≤qa.getD a 0∧qa.getD a 0≤3∧(0≤(↑x:Int)∧(↑x:Int)<(↑qb.length:Int))∧ub.length≤1000∧lb.length≤1000∧qb.length≤1000∧0≤qb.getD x 0∧qb.getD x 0≤3∧(bk (qa.getD a 0) ua la).length≤1000∧(aX (qb.getD x 0) ub lb).length≤1000∧lV (bk (qa.getD a 0) ua la)∧lV (aX (qb.getD x 0) ub lb)∧ay (decide ((↑(dF (bk (qa.getD a 0) ua la) (aX (qb.getD x 0) ub lb) ((↑y:Int)-8) (aX (qb.getD x 0) ub lb).length).length:Int)<3)) (v85.q1 y a x qa qb ua la wa ub lb wb z) (0<(dF (bk (qa.getD a 0) ua la) (aX (qb.getD x 0) ub lb) ((↑y:Int)-8) (aX (qb.getD x 0) ub lb).length).length∧(dF (bk (qa.getD a 0) ua la) (aX (qb.getD x 0) ub lb) ((↑y:Int)-8) (aX (qb.getD x 0) ub lb).length).length≤1000∧cn ((lM (dF (bk (qa.getD a 0) ua la) (aX (qb.getD x 0) ub lb) ((↑y:Int)-8) (aX (qb.getD x 0) ub lb).length)).2.1-(lM (dF (bk (qa.getD a 0) ua la) (aX (qb.getD x 0) ub lb) ((↑y:Int)-8) (aX (qb.getD x 0) ub lb).length)).1)∧v85.q1 y a x qa qb ua la wa ub lb wb (if (lM (dF (bk (qa.getD a 0) ua la) (aX (qb.getD x 0) ub lb) ((↑y:Int)-8) (aX (qb.getD x 0) ub lb).length)).2.1-(lM (dF (bk (qa.getD a 0) ua la) (aX (qb.getD x 0) ub lb) ((↑y:Int)-8) (aX (qb.getD x 0) ub lb).length)).1<z then (lM (dF (bk (qa.getD a 0) ua la) (aX (qb.getD x 0) ub lb) ((↑y:Int)-8) (aX (qb.getD x 0) ub lb).length)).2.1-(lM (dF (bk (qa.getD a 0) ua la) (aX (qb.getD x 0) ub lb) ((↑y:Int)-8) (aX (qb.getD x 0) ub lb).length)).1 else z))) (cn ((↑x:Int)+1)∧∃ (w:Nat),∃ (r:Int),(0:Int)=0∧z=r∧(↑a:Int)=(↑a:Int)∧(↑x:Int)+1=(↑w:Int)∧(↑a:Int)=(↑a:Int)∧qa=qa∧(↑qa.length:Int)=(↑qa.length:Int)∧true=true∧ua=ua∧la=la∧wa=wa∧qa=qa∧ub=ub∧lb=lb∧wb=wb∧qb=qb∧w≤qb.length∧r=rl (r1 (pd ua la wa qa) (pd ub lb wb qb) a++r2 (pd ua la wa qa) (pd ub lb wb qb) a w)∧qb.length-w<qb.length-x)) (cn ((↑a:Int)+1)∧∃ (y:Nat),∃ (z:Int),(0:Int)=0∧v=z∧(↑a:Int)+1=(↑y:Int)∧ua=ua∧la=la∧wa=wa∧qa=qa∧ub=ub∧lb=lb∧wb=wb∧qb=qb∧y≤qa.length∧z=rl (r1 (pd ua la wa qa) (pd ub lb wb qb) y)∧qa.length-y<qa.length-a)) (∃ (a:Int),u=a∧a=oB (pd ua la wa qa) (pd ub lb wb qb)∧True)) (by kernel_rfl) ?_
  unfold v85.q1
  obtain⟨h1,h2,-⟩:=hp
  have s1:=xJ h1
  have s2:=xJ h2
  have n1:=h1.n8
  have n2:=h2.n8
  have l1:=q_len h1
  have l2:=q_len h2
  simp only[bR,eq_self,true_and,and_true,cn]
  refine⟨⟨0,18,rfl,rfl,by omega,rfl,by omega⟩,fun x n hx hn=>⟨fun iz=>⟨⟨0,n,rfl,rfl,by omega,by rw[hn]; rw[show r2 (pd ua la wa qa) (pd ub lb wb qb) x 0=[] from rfl,eU],by omega⟩,fun y m hy hm=>⟨fun Jq=>⟨⟨0,m,rfl,by omega,by omega,by rw[hm]; rw[show r3 (pd ua la wa qa) (pd ub lb wb qb) x y 0=[] from rfl,eU],by omega⟩,fun k b hk hb=>⟨fun oI => ?_,fun oI=>⟨⟨by omega,by omega⟩,y+1,b,rfl,by omega,by omega,?_,by omega⟩⟩⟩,fun Jq=>⟨⟨by omega,by omega⟩,x+1,m,rfl,by omega,by omega,?_,by omega⟩⟩⟩,fun iz=>⟨n,rfl,by rw[hn,show x=qa.length by omega]; rfl⟩⟩⟩
  · have m1:=h1.B5 _ (fo (show x<qa.length by omega))
    have m2:=h2.B5 _ (fo (show y<qb.length by omega))
    have a1:=qW (n:=qa.getD x 0) h1.hu h1.hl
    have a2:=qW (n:=qb.getD y 0) h2.hu h2.hl
    have c1:=oa (n:=qa.getD x 0) h1.len
    have c2:=oa (n:=qb.getD y 0) h2.len
    have st:=wI ((k:Int)-8) a1.2 a2.1
    have ln:((dF (bk (qa.getD x 0) ua la) (aX (qb.getD y 0) ub lb) ((k:Int)-8) (aX (qb.getD y 0) ub lb).length).length:Int)=(stA (bk (qa.getD x 0) ua la) (aX (qb.getD y 0) ub lb) ((k:Int)-8)).2.2:=(Ea _).symm
    have ly:3≤(stA (bk (qa.getD x 0) ua la) (aX (qb.getD y 0) ub lb) ((k:Int)-8)).2.2→r3 (pd ua la wa qa) (pd ub lb wb qb) x y k++[(stA (bk (qa.getD x 0) ua la) (aX (qb.getD y 0) ub lb) ((k:Int)-8)).2.1-(stA (bk (qa.getD x 0) ua la) (aX (qb.getD y 0) ub lb) ((k:Int)-8)).1]=r3 (pd ua la wa qa) (pd ub lb wb qb) x y (k+1):=fun h=>Ec (n:=8) h
    have le:¬ 3≤(stA (bk (qa.getD x 0) ua la) (aX (qb.getD y 0) ub lb) ((k:Int)-8)).2.2→r3 (pd ua la wa qa) (pd ub lb wb qb) x y k=r3 (pd ua la wa qa) (pd ub lb wb qb) x y (k+1):=fun h=>H8 (n:=8) h
    have cl:=zi (bk (qa.getD x 0) ua la) (aX (qb.getD y 0) ub lb) ((k:Int)-8) (aX (qb.getD y 0) ub lb).length
    refine⟨⟨by omega,by omega⟩,s1.1,s1.2.1,s1.2.2,m1.1,m1.2,⟨by omega,by omega⟩,s2.1,s2.2.1,s2.2.2,m2.1,m2.2,by omega,by omega,a1.2,a2.1,fun c=>⟨⟨by omega,by omega⟩,k+1,b,rfl,by omega,by omega,by rw[hb,le (by omega)],by omega⟩,fun c=>⟨by omega,by omega,⟨by have:=st; simp only[stA] at this; omega,by have:=st; simp only[stA] at this; omega⟩,⟨by omega,by omega⟩,k+1,_,rfl,by omega,by omega,?_,by omega⟩⟩
    rw[← ly (by omega),← eV,YA,← hb]
    rfl
  · rw[hb,show k=17 by omega,eV,Uf (by exact(show y<qb.length by omega))]
  · rw[hm,show y=qb.length by omega]
    exact congrArg rl (Ug (p:=pd ua la wa qa) (q:=pd ub lb wb qb) (show x<qa.length by omega))
theorem vK:∀ (L:List Int) (z:Int),(L.foldl mn z=z∨L.foldl mn z∈L)∧L.foldl mn z≤z∧∀ v∈L,L.foldl mn z≤v
  | [],z=>⟨.inl rfl,Int.le_refl _,by simp⟩
  | a::L,z=>by
    have ih:=vK L (mn z a)
    have e:(a::L).foldl mn z=L.foldl mn (mn z a):=rfl
    have hm:mn z a≤z∧mn z a≤a∧(mn z a=z∨mn z a=a):=by unfold mn; split<;>omega
    rw[e]
    refine⟨?_,by omega,fun v hv => ?_⟩
    · rcases ih.1 with h | h
      · rcases hm.2.2 with k | k
        · exact .inl (h.trans k)
        · exact .inr (by rw[h,k]; exact lz)
      · exact .inr (List.mem_cons_of_mem _ h)
    · rcases bH.1 hv with rfl | hv
      · omega
      · exact ih.2.2 v hv
theorem KF {n k:Nat} {A B:List Int} {v:Int} (h1:B.length≤n) (h2:n+A.length≤k):v∈rR n A B k↔∃ s:Int,3≤(stA A B s).2.2∧v=(stA A B s).2.1-(stA A B s).1:=by
  simp only[rR,List.mem_flatMap,List.mem_range]
  constructor
  · rintro⟨j,-,h⟩
    split at h
    · rename_i h3; exact⟨_,h3,bJ.1 h⟩
    · cases h
  · rintro⟨s,h3,rfl⟩
    have hr:¬ (s ≤ -(B.length:Int)∨(A.length:Int)≤s):=fun h=>by
      rw[stA,sJ h] at h3
      exact absurd h3 (by decide)
    refine⟨(s+n).toNat,by omega,?_⟩
    have e:(((s+n).toNat:Nat):Int)-n=s:=by omega
    rw[e,if_pos h3]
    exact bJ.2 rfl
theorem Pj {p q:PD} (h1:s8 p) (h2:s8 q) {v:Int}:v∈r1 p q p.2.2.2.1.length↔v∈dw p.1 p.2.1 p.2.2.2.1 q.1 q.2.1 q.2.2.2.1:=by
  have n1:=h1.n8
  have n2:=h2.n8
  rw[r1,dc,dw]
  simp only[sM,List.mem_flatMap]
  have key:∀ u w,v∈rR 8 (bk u p.1 p.2.1) (aX w q.1 q.2.1) 17↔v∈rR q.1.length (bk u p.1 p.2.1) (aX w q.1 q.2.1) (q.1.length+p.1.length+1):=fun u w=>by
    have c1:=(oa (n:=u) h1.len).2
    have c2:=(oa (n:=w) h2.len).1
    rw[KF (by omega) (by omega),KF (by omega) (by omega)]
  simp only[key]
theorem Vz {p q:PD} (h1:s8 p) (h2:s8 q) {v:Int} (h:v∈dw p.1 p.2.1 p.2.2.2.1 q.1 q.2.1 q.2.2.2.1):v≤18:=by
  simp only[dw,sM,rR,List.mem_flatMap] at h
  obtain⟨x,-,y,-,j,-,h⟩:=h
  split at h
  · have st:=wI ((j:Int)-q.1.length) (qW (n:=x) h1.hu h1.hl).2 (qW (n:=y) h2.hu h2.hl).1
    rw[bJ.1 h]
    omega
  · cases h
theorem I7 {p q:PD} (h1:s8 p) (h2:s8 q):mn (oB p q) (oB q p)=Ik p q:=by
  have hne:1≤(dw p.1 p.2.1 p.2.2.2.1 q.1 q.2.1 q.2.2.2.1++dw q.1 q.2.1 q.2.2.2.1 p.1 p.2.1 p.2.2.2.1).length:=by
    rw[bU]
    by_cases hw:q.1.length≤p.1.length
    · have:=yV h1 h2 hw; omega
    · have:=yV h2 h1 (by omega); omega
  have a:=vK (r1 p q p.2.2.2.1.length) 18
  have b:=vK (r1 q p q.2.2.2.1.length) 18
  have ea:(r1 p q p.2.2.2.1.length).foldl mn 18=oB p q:=rfl
  have eb:(r1 q p q.2.2.2.1.length).foldl mn 18=oB q p:=rfl
  rw[ea] at a
  rw[eb] at b
  simp only[Pj h1 h2] at a
  simp only[Pj h2 h1] at b
  have d1:=fun v=>Vz (v:=v) h1 h2
  have d2:=fun v=>Vz (v:=v) h2 h1
  unfold Ik DN
  revert hne a b d1 d2
  generalize dw p.1 p.2.1 p.2.2.2.1 q.1 q.2.1 q.2.2.2.1=L
  generalize dw q.1 q.2.1 q.2.2.2.1 p.1 p.2.1 p.2.2.2.1=M
  generalize oB p q=m1
  generalize oB q p=m2
  intro hne a b d1 d2
  have hm:((L++M).drop 1).foldl mn ((L++M).getD 0 0)∈L++M∧∀ v∈L++M,((L++M).drop 1).foldl mn ((L++M).getD 0 0)≤v:=by
    generalize L++M=N at hne
    cases N with
    | nil=>simp at hne
    | cons c N =>
      have:=vK N c
      show N.foldl mn c∈c::N∧∀ v∈c::N,N.foldl mn c≤v
      refine⟨this.1.elim (fun h=>by rw[h]; exact lz) (List.mem_cons_of_mem _),fun v hv => ?_⟩
      rcases bH.1 hv with rfl | hv
      · exact this.2.1
      · exact this.2.2 v hv
  revert hm
  generalize ((L++M).drop 1).foldl mn ((L++M).getD 0 0)=m
  rintro⟨hm,hl⟩
  have m18:m≤18:=(gn.1 hm).elim (d1 m) (d2 m)
  have e1:m≤m1:=a.1.elim (fun h=>by omega) fun h=>hl _ (gn.2 (.inl h))
  have e2:m≤m2:=b.1.elim (fun h=>by omega) fun h=>hl _ (gn.2 (.inr h))
  have e3:m1≤m∨m2≤m:=(gn.1 hm).elim (fun h => .inl (a.2.2 _ h)) fun h => .inr (b.2.2 _ h)
  unfold mn
  split<;>omega
def P2:gd:=(Q1.cA 62 fun a=>dS (HX a)).cA 85 fun a=>dS (D85 a)
def v36.q1 (p0:List (aK).den) (p1:Int):Prop:=Ok (p0.getD p1.toNat ([],[],0,[],())).1 (p0.getD p1.toNat ([],[],0,[],())).2.1 (p0.getD p1.toNat ([],[],0,[],())).2.2.1 (p0.getD p1.toNat ([],[],0,[],())).2.2.2.1
theorem v36:VI P2 Tryz.f36 [some cv,some cv] ZV:=by
  refine fF fun a => ?_
  unfold ZV
  split
  rotate_left
  · trivial
  rename_i l x y
  intro hp
  refine tH (A:=l.length≤1000∧(∀ (p:(aK).den),p∈l→dD p)∧∀ (a:Int),a=ei l x y→ay (a !=0) (∃ (z:Int),∃ (u:Int),0=z∧a=u∧z=lS l x y∧u=ei l x y∧True) ((0≤x∧x<(↑l.length:Int))∧(0≤y∧y<(↑l.length:Int))∧v36.q1 l x∧v36.q1 l y∧∀ (a:Int),a=oB (pd (l.getD x.toNat ([],[],0,[],())).1 (l.getD x.toNat ([],[],0,[],())).2.1 (l.getD x.toNat ([],[],0,[],())).2.2.1 (l.getD x.toNat ([],[],0,[],())).2.2.2.1) (pd (l.getD y.toNat ([],[],0,[],())).1 (l.getD y.toNat ([],[],0,[],())).2.1 (l.getD y.toNat ([],[],0,[],())).2.2.1 (l.getD y.toNat ([],[],0,[],())).2.2.2.1)→(0≤y∧y<(↑l.length:Int))∧(0≤x∧x<(↑l.length:Int))∧v36.q1 l y∧v36.q1 l x∧∀ (z:Int),z=oB (pd (l.getD y.toNat ([],[],0,[],())).1 (l.getD y.toNat ([],[],0,[],())).2.1 (l.getD y.toNat ([],[],0,[],())).2.2.1 (l.getD y.toNat ([],[],0,[],())).2.2.2.1) (pd (l.getD x.toNat ([],[],0,[],())).1 (l.getD x.toNat ([],[],0,[],())).2.1 (l.getD x.toNat ([],[],0,[],())).2.2.1 (l.getD x.toNat ([],[],0,[],())).2.2.2.1)→∃ (u:Int),∃ (v:Int),(if z<a then z else a)=u∧0=v∧u=lS l x y∧v=ei l x y∧True)) (by kernel_rfl) ?_
  unfold v36.q1
  obtain⟨h1,h2,-⟩:=hp
  simp only[cF,eq_self,true_and,and_true]
  refine⟨h1,h2,fun e he=>⟨fun e0 => ?_,fun e1=>⟨0,e,rfl,rfl,by rw[lS,if_neg (he▸e1)],he⟩⟩⟩
  subst he
  obtain⟨k1,k2,k3,k4,k5,k6,k7⟩:=Ks e0
  have o1:s8 (l.getD x.toNat dP):=eA (by omega) k2
  have o2:s8 (l.getD y.toNat dP):=eA (by omega) k2
  refine⟨⟨k3,k4⟩,⟨k5,k6⟩,o1,o2,fun n hn=>⟨⟨k5,k6⟩,⟨k3,k4⟩,o2,o1,fun m hm=>⟨_,_,rfl,rfl,?_,e0.symm⟩⟩⟩
  rw[lS,if_pos e0,← I7 o1 o2,hn,hm]
  rfl
end Go.Tv
end
