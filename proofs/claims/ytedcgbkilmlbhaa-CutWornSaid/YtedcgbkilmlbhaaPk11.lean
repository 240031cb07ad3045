import Derived.Test.YtedcgbkilmlbhaaPk10
section
namespace Go.Tv
open Go Go.Di Go.Proofs
set_option maxRecDepth 100000
abbrev cD:Type:=Bool×(Int×Int×Int×Unit)×Unit
def o1 (na nb:Int) (x:cD):cD:=(!x.1,(aW x.2.1.2.1 1,aW x.2.1.1 1,x.2.1.2.2.1+nb-na,()),())
def o2 (na nb:Int) (x:cD):cD:=(x.1,(aW x.2.1.1 2,aW x.2.1.2.1 2,na-nb-x.2.1.2.2.1,()),())
def o3 (x:cD):cD:=(!x.1,(aW x.2.1.2.1 3,aW x.2.1.1 3,-x.2.1.2.2.1,()),())
def D56:List TV→Dn
 | [.agg [.val (.bool t),.val (.int .i64 u),.val (.int .i64 l),.val (.int .i64 s)],.val (.int .i64 na),.val (.int .i64 nb)]=>some ([-10000≤s,s≤10000,0≤na,na≤1000,0≤nb,nb≤1000],.res (.agg [mX (!t),bX (aW l 1),bX (aW u 1),bX (s+nb-na),mX t,bX (aW u 2),bX (aW l 2),bX (na-nb-s),mX (!t),bX (aW l 3),bX (aW u 3),bX (-s)]) [] [],[])
 | _=>none
def v56.q1 (p0:Bool) (p1 p2 p3 p4:Int) (p5:Prop):Prop:=p0=p0∧IntKind.i64.wrap (↑(BitVec.ofInt (64:Nat) p1 ^^^ BitVec.ofInt (64:Nat) p2).toNat:Int)=aW p1 p2∧IntKind.i64.wrap (↑(BitVec.ofInt (64:Nat) p3 ^^^ BitVec.ofInt (64:Nat) p2).toNat:Int)=aW p3 p2∧p4=p4∧p5
theorem v56:VI T0 Try.f56 [none] D56:=by
 refine nN fun a => ?_
 unfold D56
 split
 rotate_left
 ·trivial
 rename_i t u l s na nb
 intro hp
 refine G3 (A:=cq (s+nb)∧cq (s+nb-na)∧cq (na-nb)∧cq (na-nb-s)∧cq (-s)∧v56.q1 (!t) l (1:Int) u (s+nb-na) (v56.q1 t u (2:Int) l (na-nb-s) (v56.q1 (!t) l (3:Int) u (-s) True))) (by kernel_rfl) ?_
 unfold v56.q1
 obtain⟨h1,h2,h3,h4,h5,h6,-⟩:=hp
 simp only[cq,eq_self,true_and,and_true]
 exact⟨by omega,by omega,by omega,by omega,by omega,rfl,rfl,rfl,rfl,rfl,rfl⟩
def ai (ua la qa ub lb qb:List Int) (w:Int):List (Int×Int×Int×Unit):=qa.flatMap fun x=>qb.flatMap fun y=>(pe (aT x ua la) (aR y ub lb) w (ub.length+ua.length+1)).map fun s=>(x,y,s,())
structure Qk (aZ:bq):Prop where
 SH:∀ (ua la qa ub lb qb:List Int) (wa wb:Int) d1 d2,Ok ua la wa qa→Ok ub lb wb qb→RT eD [] (Xq ua la wa qa) d1→RT eD [] (Xq ub lb wb qb) d2→∃ r,aZ 33 [d1,d2]=some r∧r.pure=true∧RT eD [] (.sl jw (ai ua la qa ub lb qb (wa+wb)) .no) r
def S60:List TV→Sp
 | [.agg [.sl (.int .i64) ua .no,.sl (.int .i64) la .no,.val (.int .i64 wa),.sl (.int .i64) qa .no,.sl (.int .i64) a0 .no,.sl (.int .i64) a1 .no,.sl (.int .i64) a2 .no,.sl (.int .i64) a3 .no,.sl (.int .i64) a4 .no,.sl (.int .i64) a5 .no,.sl (.int .i64) a6 .no,.sl (.int .i64) a7 .no],.agg [.sl (.int .i64) ub .no,.sl (.int .i64) lb .no,.val (.int .i64 wb),.sl (.int .i64) qb .no,.sl (.int .i64) b0 .no,.sl (.int .i64) b1 .no,.sl (.int .i64) b2 .no,.sl (.int .i64) b3 .no,.sl (.int .i64) b4 .no,.sl (.int .i64) b5 .no,.sl (.int .i64) b6 .no,.sl (.int .i64) b7 .no]]=>some ([Ok ua la wa qa,Ok ub lb wb qb,a0=ua,a1=la,a2=la.reverse,a3=ua.reverse,a4=ua.reverse,a5=la.reverse,a6=la,a7=ua,b0=ub,b1=lb,b2=lb.reverse,b3=ub.reverse,b4=ub.reverse,b5=lb.reverse,b6=lb,b7=ub],.res (.sl jw (ai ua la qa ub lb qb (wa+wb)) .no) [] [])
 | _=>none
theorem pI {α β:Type} {f:α→List β} {c:Nat}:∀ {l:List α},(∀ x∈l,(f x).length≤c)→(l.flatMap f).length≤l.length*c
 | [],_=>by simp
 | x::l,h=>by
  have h1:=h x (by simp)
  have h2:=pI (f:=f) (l:=l) fun y hy=>h y (by simp[hy])
  rw[List.flatMap_cons,List.length_append,List.length_cons,Nat.add_mul]
  omega
theorem IA:∀ (l:List Int) (c:Int),(∀ x∈l,c≤x∧x≤3)→l.Pairwise (· < ·)→(l.length:Int)≤max 0 (4-c)
 | [],c,_,_=>by simp; omega
 | x::l,c,h,hp=>by
  have h1:=h x (by simp)
  rw[List.pairwise_cons] at hp
  have h2:=IA l (x+1) (fun y hy=>⟨hp.1 y hy,(h y (by simp[hy])).2⟩) hp.2
  rw[List.length_cons]
  omega
theorem q_len {u l q:List Int} {w:Int} (h:Ok u l w q):q.length≤4:=by
 have:=IA q 0 h.CY h.PM
 omega
theorem mz {ua la qa ub lb qb:List Int} {w wa wb:Int} (ha:Ok ua la wa qa) (hb:Ok ub lb wb qb):(ai ua la qa ub lb qb w).length≤272:=by
 have h1:=q_len ha
 have h2:=q_len hb
 have h3:=ha.n8
 have h4:=hb.n8
 unfold ai
 refine Nat.le_trans (pI (c:=68) fun i _ => ?_) (by omega)
 refine Nat.le_trans (pI (c:=17) fun j _ => ?_) (by omega)
 rw[List.length_map,pe]
 refine Nat.le_trans (List.length_filter_le _ _) ?_
 simp only[List.length_map,List.length_range]
 omega
theorem QN {ua la qa ub lb qb:List Int} {w wa wb:Int} (ha:Ok ua la wa qa) (hb:Ok ub lb wb qb) {x:Int×Int×Int×Unit} (h:x∈ai ua la qa ub lb qb w) : -10000≤x.2.2.1∧x.2.2.1≤10000:=by
 have h3:=ha.n8
 have h4:=hb.n8
 simp only[ai,List.mem_flatMap,List.mem_map,pe,List.mem_filter,List.mem_range] at h
 obtain⟨a,-,b,-,s,⟨⟨k,hk,rfl⟩,-⟩,rfl⟩:=h
 have:=(sV (n:=b) hb.len).1
 simp only
 omega
theorem H6 {ua la qa ub lb qb:List Int} {w wa wb:Int} (ha:Ok ua la wa qa) (hb:Ok ub lb wb qb) {i:Nat} {d:Int×Int×Int×Unit} (h:i<(ai ua la qa ub lb qb w).length) : -10000≤((ai ua la qa ub lb qb w).getD i d).2.2.1∧((ai ua la qa ub lb qb w).getD i d).2.2.1≤10000:=by
 rw[List.getD_eq_getElem?_getD,List.getElem?_eq_getElem h,Option.getD_some]
 exact QN ha hb (List.getElem_mem h)
def Ft (x y:cD):Bool:=(x.1==y.1)&&(((x.2.1.1==y.2.1.1)&&((x.2.1.2.1==y.2.1.2.1)&&((x.2.1.2.2.1==y.2.1.2.2.1)&&true)))&&true)
def jK (na nb:Int) (q:List cD×Int) (w:cD):List cD×Int :=
 (cH aY w q.1,bif dA aY (o1 na nb w) (cH aY w q.1) then q.2 else bif (!Ft (o2 na nb w) w&&dA aY (o2 na nb w) (cH aY w q.1)) then q.2 else bif dA aY (o3 w) (cH aY w q.1) then q.2 else q.2+1)
def bG (na nb:Int) (t:Bool) (q:List cD×Int) (l:List (Int×Int×Int×Unit)):List cD×Int:=l.foldl (fun q s=>jK na nb q (t,s,())) q
def dD (ua la qa ub lb qb:List Int) (wa wb:Int):Int:=(bG ub.length ua.length true (bG ua.length ub.length false ([],0) (ai ua la qa ub lb qb (wa+wb))) (ai ub lb qb ua la qa (wb+wa))).2
section
variable {na nb:Int} {t:Bool} {q:List cD×Int} {l:List (Int×Int×Int×Unit)} {i:Nat}
theorem O0 (d:Int×Int×Int×Unit) (h:i<l.length):bG na nb t q (l.take (i+1))=jK na nb (bG na nb t q (l.take i)) (t,l.getD i d,()):=by
 rw[bG,List.take_succ_eq_append_getElem h,List.foldl_append,List.getD_eq_getElem?_getD,List.getElem?_eq_getElem h,Option.getD_some]
 rfl
theorem ED (h:¬ i<l.length) (h':i≤l.length):bG na nb t q (l.take i)=bG na nb t q l:=by rw[show i=l.length by omega,List.take_length]
theorem QI (w:cD):q.2≤(jK na nb q w).2∧(jK na nb q w).2≤q.2+1:=by
 unfold jK
 cases dA aY (o1 na nb w) (cH aY w q.1)<;>cases (!Ft (o2 na nb w) w&&dA aY (o2 na nb w) (cH aY w q.1))<;>cases dA aY (o3 w) (cH aY w q.1)<;>simp<;>omega
theorem xV:∀ (l:List (Int×Int×Int×Unit)) (q:List cD×Int),q.2≤(bG na nb t q l).2∧(bG na nb t q l).2≤q.2+l.length
 | [],q=>by simp[bG]
 | s::l,q=>by
  have h1:=QI (na:=na) (nb:=nb) (q:=q) (t,s,())
  have h2:=xV l (jK na nb q (t,s,()))
  have e:bG na nb t q (s::l)=bG na nb t (jK na nb q (t,s,())) l:=rfl
  rw[e,List.length_cons]
  omega
variable {w:cD}
theorem st1 (h:dA aY (o1 na nb w) (cH aY w q.1)=true):jK na nb q w=(cH aY w q.1,q.2):=by simp only[jK,h,cond_true]
theorem st2 (h:dA aY (o1 na nb w) (cH aY w q.1)=false) (h2:(!Ft (o2 na nb w) w)=true) (h3:dA aY (o2 na nb w) (cH aY w q.1)=true):jK na nb q w=(cH aY w q.1,q.2):=by simp only[jK,h,h2,h3,Bool.and_self,cond_true,cond_false]
theorem st3 (h:dA aY (o1 na nb w) (cH aY w q.1)=false) (h2:(!Ft (o2 na nb w) w)=false∨dA aY (o2 na nb w) (cH aY w q.1)=false) (h3:dA aY (o3 w) (cH aY w q.1)=true):jK na nb q w=(cH aY w q.1,q.2):=by
 rcases h2 with h2 | h2<;>simp only[jK,h,h2,h3,Bool.and_false,Bool.false_and,cond_true,cond_false]
theorem st4 (h:dA aY (o1 na nb w) (cH aY w q.1)=false) (h2:(!Ft (o2 na nb w) w)=false∨dA aY (o2 na nb w) (cH aY w q.1)=false) (h3:dA aY (o3 w) (cH aY w q.1)=false):jK na nb q w=(cH aY w q.1,q.2+1):=by
 rcases h2 with h2 | h2<;>simp only[jK,h,h2,h3,Bool.and_false,Bool.false_and,cond_false]
end
def xF (na nb:Int) (t:Bool) (q:List cD×Int) (l:List (Int×Int×Int×Unit)) (i:Nat) (d:Int×Int×Int×Unit) (v:Int):Prop :=
 cq ((i:Int)+1)∧∃ j:Nat,v=(bG na nb t q (l.take j)).2∧(i:Int)+1=(j:Int)∧cH aY (t,l.getD i d,()) (bG na nb t q (l.take i)).1=(bG na nb t q (l.take j)).1∧j≤l.length∧l.length-j<l.length-i
theorem pG {na nb:Int} {t:Bool} {q:List cD×Int} {l:List (Int×Int×Int×Unit)} {i:Nat} {d:Int×Int×Int×Unit} {v:Int} (hi:i<l.length) (hl:l.length≤272) (e:jK na nb (bG na nb t q (l.take i)) (t,l.getD i d,())=(cH aY (t,l.getD i d,()) (bG na nb t q (l.take i)).1,v)):xF na nb t q l i d v:=by
 have e2:=(O0 d hi).trans e
 exact⟨by simp only[cq]; omega,i+1,by rw[e2],by omega,by rw[e2],by omega,by omega⟩
theorem D5 {na nb:Int} {t:Bool} {q:List cD×Int} {l:List (Int×Int×Int×Unit)} {i:Nat} {d:Int×Int×Int×Unit} (hi:i<l.length) (hl:l.length≤272) (h0:0≤q.2) (h1:q.2≤272) :
  (dA aY (o1 na nb (t,l.getD i d,())) (cH aY (t,l.getD i d,()) (bG na nb t q (l.take i)).1)=true→xF na nb t q l i d (bG na nb t q (l.take i)).2) ∧
  (dA aY (o1 na nb (t,l.getD i d,())) (cH aY (t,l.getD i d,()) (bG na nb t q (l.take i)).1)=false →
   ((!Ft (o2 na nb (t,l.getD i d,())) (t,l.getD i d,()))=true→(dA aY (o2 na nb (t,l.getD i d,())) (cH aY (t,l.getD i d,()) (bG na nb t q (l.take i)).1)=true→xF na nb t q l i d (bG na nb t q (l.take i)).2)∧(dA aY (o2 na nb (t,l.getD i d,())) (cH aY (t,l.getD i d,()) (bG na nb t q (l.take i)).1)=false →
    (dA aY (o3 (t,l.getD i d,())) (cH aY (t,l.getD i d,()) (bG na nb t q (l.take i)).1)=true→xF na nb t q l i d (bG na nb t q (l.take i)).2)∧(dA aY (o3 (t,l.getD i d,())) (cH aY (t,l.getD i d,()) (bG na nb t q (l.take i)).1)=false→cq ((bG na nb t q (l.take i)).2+1)∧xF na nb t q l i d ((bG na nb t q (l.take i)).2+1)))) ∧
   ((!Ft (o2 na nb (t,l.getD i d,())) (t,l.getD i d,()))=false →
    (dA aY (o3 (t,l.getD i d,())) (cH aY (t,l.getD i d,()) (bG na nb t q (l.take i)).1)=true→xF na nb t q l i d (bG na nb t q (l.take i)).2)∧(dA aY (o3 (t,l.getD i d,())) (cH aY (t,l.getD i d,()) (bG na nb t q (l.take i)).1)=false→cq ((bG na nb t q (l.take i)).2+1)∧xF na nb t q l i d ((bG na nb t q (l.take i)).2+1)))):=by
 have b:=xV (na:=na) (nb:=nb) (t:=t) (l.take i) q
 have b2:(l.take i).length≤272:=by rw[List.length_take]; omega
 have r:cq ((bG na nb t q (l.take i)).2+1):=by simp only[cq]; omega
 exact⟨fun c1=>pG hi hl (st1 c1),fun c1=>⟨fun c2=>⟨fun c3=>pG hi hl (st2 c1 c2 c3),fun c3=>⟨fun c4=>pG hi hl (st3 c1 (.inr c3) c4),fun c4=>⟨r,pG hi hl (st4 c1 (.inr c3) c4)⟩⟩⟩,fun c2=>⟨fun c4=>pG hi hl (st3 c1 (.inl c2) c4),fun c4=>⟨r,pG hi hl (st4 c1 (.inl c2) c4)⟩⟩⟩⟩
theorem Ke:qG Tp 107 aY:=by
 refine Oo (key:=110) (elem:=4) (td:=(Tp.underlying 110).getD default) (by kernel_rfl) (by kernel_rfl) (fun x y=>by kernel_rfl) (by kernel_rfl) (fun b x=>by cases b<;>kernel_rfl) (fun x y => ?_) (fun x => ?_)
 ·have e:Yh Tp 2 110 (iQ aY x) (iQ aY y)=some (Ft x y):=by kernel_rfl
  have e2:=Ga (d:=10000) (by omega) e
  refine e2.trans (congrArg some ?_)
  rw[Bool.eq_iff_iff,@decide_eq_true_iff _ (wj aY x y)]
  obtain⟨t,⟨u,l,s,c⟩,c'⟩:=x
  obtain⟨t2,⟨u2,l2,s2,c2⟩,c3⟩:=y
  change Ft (t,(u,l,s,()),()) (t2,(u2,l2,s2,()),())=true↔((t,(u,l,s,()),()):cD)=(t2,(u2,l2,s2,()),())
  simp only[Ft,Bool.and_eq_true,beq_iff_eq,and_true,Prod.mk.injEq]
 ·have e:Instr.sameBits 10000 (iQ aY x) (iQ aY x)=((x.1==x.1)&&((IntKind.i64==IntKind.i64&&x.2.1.1==x.2.1.1)&&((IntKind.i64==IntKind.i64&&x.2.1.2.1==x.2.1.2.1)&&((IntKind.i64==IntKind.i64&&x.2.1.2.2.1==x.2.1.2.2.1)&&true)))):=by kernel_rfl
  rw[e]
  simp
def F1:gN:=(T0.dQ 56 fun a=>dS (D56 a)).dQ 33 S60
def D31:List TV→Dn
 | [.agg [.sl (.int .i64) ua .no,.sl (.int .i64) la .no,.val (.int .i64 wa),.sl (.int .i64) qa .no,.sl (.int .i64) a0 .no,.sl (.int .i64) a1 .no,.sl (.int .i64) a2 .no,.sl (.int .i64) a3 .no,.sl (.int .i64) a4 .no,.sl (.int .i64) a5 .no,.sl (.int .i64) a6 .no,.sl (.int .i64) a7 .no],.agg [.sl (.int .i64) ub .no,.sl (.int .i64) lb .no,.val (.int .i64 wb),.sl (.int .i64) qb .no,.sl (.int .i64) b0 .no,.sl (.int .i64) b1 .no,.sl (.int .i64) b2 .no,.sl (.int .i64) b3 .no,.sl (.int .i64) b4 .no,.sl (.int .i64) b5 .no,.sl (.int .i64) b6 .no,.sl (.int .i64) b7 .no]]=>some ([Ok ua la wa qa,Ok ub lb wb qb,a0=ua,a1=la,a2=la.reverse,a3=ua.reverse,a4=ua.reverse,a5=la.reverse,a6=la,a7=ua,b0=ub,b1=lb,b2=lb.reverse,b3=ub.reverse,b4=ub.reverse,b5=lb.reverse,b6=lb,b7=ub],.res (bX (dD ua la qa ub lb qb wa wb)) [] [],
  [(5,.un 3),(24,.un 4),(15,.dep fun te _=>match te.getD 8 .unk with
   | .val (.bool true) => .ex Nat fun i => .st { sl:=[(32,bX i),(6,bX (bG ub.length ua.length true (bG ua.length ub.length false ([],0) (ai ua la qa ub lb qb (wa+wb))) ((ai ub lb qb ua la qa (wb+wa)).take i)).2)],mp:=[(2,⟨aY,(bG ub.length ua.length true (bG ua.length ub.length false ([],0) (ai ua la qa ub lb qb (wa+wb))) ((ai ub lb qb ua la qa (wb+wa)).take i)).1⟩)],eE:=[i≤(ai ub lb qb ua la qa (wb+wa)).length],m:=(ai ub lb qb ua la qa (wb+wa)).length-i }
   | _ => .ex Nat fun i => .st { sl:=[(32,bX i),(6,bX (bG ua.length ub.length false ([],0) ((ai ua la qa ub lb qb (wa+wb)).take i)).2)],mp:=[(2,⟨aY,(bG ua.length ub.length false ([],0) ((ai ua la qa ub lb qb (wa+wb)).take i)).1⟩)],eE:=[i≤(ai ua la qa ub lb qb (wa+wb)).length],m:=(ai ua la qa ub lb qb (wa+wb)).length-i })])
 | _=>none
def v31.q1 (p0 p1:List cv.den) (p2:Int) (p3:List cv.den) (p4:Prop):Prop:=p0=p0∧p1=p1∧p2=p2∧p3=p3∧p0=p0∧p1=p1∧p1.reverse=p1.reverse∧p0.reverse=p0.reverse∧p0.reverse=p0.reverse∧p1.reverse=p1.reverse∧p1=p1∧p0=p0∧p4
def v31.q2 (p0 p1:List cv.den) (p2:Int) (p3 p4 p5:List cv.den) (p6:Int) (p7:List cv.den) (p8:Prop):Prop:=v31.q1 p0 p1 p2 p3 (v31.q1 p4 p5 p6 p7 p8)
def v31.q3 (p0:Nat) (p1 p2 p3 p4 p5 p6:List cv.den) (p7 p8 p9:Int):Prop:=cq ((↑p0:Int)+(1:Int))∧∃ (a:Nat),(0:Int)=(0:Int)∧p9=(bG (↑p1.length:Int) (↑p2.length:Int) true (bG (↑p2.length:Int) (↑p1.length:Int) false ([],(0:Int)) (ai p2 p3 p4 p1 p5 p6 (p7+p8))) (List.take a (ai p1 p5 p6 p2 p3 p4 (p8+p7)))).snd∧true=true∧[false,true]=[false,true]∧(2:Int)=(2:Int)∧(1:Int)=(1:Int)∧true=true∧[false,true]=[false,true]∧(1:Nat)=(1:Nat)∧(0:Nat)=(0:Nat)∧true=true∧v31.q2 p2 p3 p7 p4 p1 p5 p8 p6 (true=true∧v31.q2 p1 p5 p8 p6 p2 p3 p7 p4 (v31.q2 p1 p5 p8 p6 p2 p3 p7 p4 (ai p1 p5 p6 p2 p3 p4 (p8+p7)=ai p1 p5 p6 p2 p3 p4 (p8+p7)∧(↑(ai p1 p5 p6 p2 p3 p4 (p8+p7)).length:Int)=(↑(ai p1 p5 p6 p2 p3 p4 (p8+p7)).length:Int)∧(↑p0:Int)+(1:Int)=(↑a:Int)∧(1:Int)=(1:Int)∧v31.q2 p2 p3 p7 p4 p1 p5 p8 p6 (cH aY (true,(((ai p1 p5 p6 p2 p3 p4 (p8+p7)).getD p0 ((0:Int),(0:Int),(0:Int),())).fst,((ai p1 p5 p6 p2 p3 p4 (p8+p7)).getD p0 ((0:Int),(0:Int),(0:Int),())).snd.fst,((ai p1 p5 p6 p2 p3 p4 (p8+p7)).getD p0 ((0:Int),(0:Int),(0:Int),())).snd.snd.fst,()),()) (bG (↑p1.length:Int) (↑p2.length:Int) true (bG (↑p2.length:Int) (↑p1.length:Int) false ([],(0:Int)) (ai p2 p3 p4 p1 p5 p6 (p7+p8))) (List.take p0 (ai p1 p5 p6 p2 p3 p4 (p8+p7)))).fst=(bG (↑p1.length:Int) (↑p2.length:Int) true (bG (↑p2.length:Int) (↑p1.length:Int) false ([],(0:Int)) (ai p2 p3 p4 p1 p5 p6 (p7+p8))) (List.take a (ai p1 p5 p6 p2 p3 p4 (p8+p7)))).fst∧v31.q2 p2 p3 p7 p4 p1 p5 p8 p6 (v31.q2 p1 p5 p8 p6 p2 p3 p7 p4 (a≤(ai p1 p5 p6 p2 p3 p4 (p8+p7)).length∧((ai p1 p5 p6 p2 p3 p4 (p8+p7)).length-a)<((ai p1 p5 p6 p2 p3 p4 (p8+p7)).length-p0)))))))
def v31.q4 (p0:Nat) (p1 p2 p3 p4 p5 p6:List cv.den) (p7 p8 p9:Int):Prop:=cq ((↑p0:Int)+(1:Int))∧∃ (a:Nat),(0:Int)=(0:Int)∧p9=(bG (↑p1.length:Int) (↑p2.length:Int) false ([],(0:Int)) (List.take a (ai p1 p3 p4 p2 p5 p6 (p7+p8)))).snd∧false=false∧[false,true]=[false,true]∧(2:Int)=(2:Int)∧(0:Int)=(0:Int)∧true=true∧[false,true]=[false,true]∧(0:Nat)=(0:Nat)∧(0:Nat)=(0:Nat)∧false=false∧v31.q2 p1 p3 p7 p4 p2 p5 p8 p6 (false=false∧v31.q2 p1 p3 p7 p4 p2 p5 p8 p6 (ai p1 p3 p4 p2 p5 p6 (p7+p8)=ai p1 p3 p4 p2 p5 p6 (p7+p8)∧(↑(ai p1 p3 p4 p2 p5 p6 (p7+p8)).length:Int)=(↑(ai p1 p3 p4 p2 p5 p6 (p7+p8)).length:Int)∧(↑p0:Int)+(1:Int)=(↑a:Int)∧v31.q2 p1 p3 p7 p4 p2 p5 p8 p6 (cH aY (false,(((ai p1 p3 p4 p2 p5 p6 (p7+p8)).getD p0 ((0:Int),(0:Int),(0:Int),())).fst,((ai p1 p3 p4 p2 p5 p6 (p7+p8)).getD p0 ((0:Int),(0:Int),(0:Int),())).snd.fst,((ai p1 p3 p4 p2 p5 p6 (p7+p8)).getD p0 ((0:Int),(0:Int),(0:Int),())).snd.snd.fst,()),()) (bG (↑p1.length:Int) (↑p2.length:Int) false ([],(0:Int)) (List.take p0 (ai p1 p3 p4 p2 p5 p6 (p7+p8)))).fst=(bG (↑p1.length:Int) (↑p2.length:Int) false ([],(0:Int)) (List.take a (ai p1 p3 p4 p2 p5 p6 (p7+p8)))).fst∧v31.q2 p1 p3 p7 p4 p2 p5 p8 p6 (a≤(ai p1 p3 p4 p2 p5 p6 (p7+p8)).length∧((ai p1 p3 p4 p2 p5 p6 (p7+p8)).length-a)<((ai p1 p3 p4 p2 p5 p6 (p7+p8)).length-p0)))))
def v31.q5 (p0 p1 p2 p3 p4 p5:List cv.den) (p6 p7:Int) (p8:Nat):Prop:=cq (2:Int)∧qG Tp (107:Nat) aY∧aL (dA aY (!true,(aW ((ai p0 p1 p2 p3 p4 p5 (p6+p7)).getD p8 ((0:Int),(0:Int),(0:Int),())).snd.fst (3:Int),aW ((ai p0 p1 p2 p3 p4 p5 (p6+p7)).getD p8 ((0:Int),(0:Int),(0:Int),())).fst (3:Int),-((ai p0 p1 p2 p3 p4 p5 (p6+p7)).getD p8 ((0:Int),(0:Int),(0:Int),())).snd.snd.fst,()),()) (cH aY (true,(((ai p0 p1 p2 p3 p4 p5 (p6+p7)).getD p8 ((0:Int),(0:Int),(0:Int),())).fst,((ai p0 p1 p2 p3 p4 p5 (p6+p7)).getD p8 ((0:Int),(0:Int),(0:Int),())).snd.fst,((ai p0 p1 p2 p3 p4 p5 (p6+p7)).getD p8 ((0:Int),(0:Int),(0:Int),())).snd.snd.fst,()),()) (bG (↑p0.length:Int) (↑p3.length:Int) true (bG (↑p3.length:Int) (↑p0.length:Int) false ([],(0:Int)) (ai p3 p4 p5 p0 p1 p2 (p7+p6))) (List.take p8 (ai p0 p1 p2 p3 p4 p5 (p6+p7)))).fst)) (v31.q3 p8 p0 p3 p4 p5 p1 p2 p7 p6 (bG (↑p0.length:Int) (↑p3.length:Int) true (bG (↑p3.length:Int) (↑p0.length:Int) false ([],(0:Int)) (ai p3 p4 p5 p0 p1 p2 (p7+p6))) (List.take p8 (ai p0 p1 p2 p3 p4 p5 (p6+p7)))).snd) (cq (3:Int)∧cq ((bG (↑p0.length:Int) (↑p3.length:Int) true (bG (↑p3.length:Int) (↑p0.length:Int) false ([],(0:Int)) (ai p3 p4 p5 p0 p1 p2 (p7+p6))) (List.take p8 (ai p0 p1 p2 p3 p4 p5 (p6+p7)))).snd+(1:Int))∧v31.q3 p8 p0 p3 p4 p5 p1 p2 p7 p6 ((bG (↑p0.length:Int) (↑p3.length:Int) true (bG (↑p3.length:Int) (↑p0.length:Int) false ([],(0:Int)) (ai p3 p4 p5 p0 p1 p2 (p7+p6))) (List.take p8 (ai p0 p1 p2 p3 p4 p5 (p6+p7)))).snd+(1:Int)))
def v31.q6 (p0 p1 p2 p3 p4 p5:List cv.den) (p6 p7:Int) (p8:Nat):Prop:=cq (2:Int)∧qG Tp (107:Nat) aY∧aL (dA aY (!false,(aW ((ai p0 p1 p2 p3 p4 p5 (p6+p7)).getD p8 ((0:Int),(0:Int),(0:Int),())).snd.fst (3:Int),aW ((ai p0 p1 p2 p3 p4 p5 (p6+p7)).getD p8 ((0:Int),(0:Int),(0:Int),())).fst (3:Int),-((ai p0 p1 p2 p3 p4 p5 (p6+p7)).getD p8 ((0:Int),(0:Int),(0:Int),())).snd.snd.fst,()),()) (cH aY (false,(((ai p0 p1 p2 p3 p4 p5 (p6+p7)).getD p8 ((0:Int),(0:Int),(0:Int),())).fst,((ai p0 p1 p2 p3 p4 p5 (p6+p7)).getD p8 ((0:Int),(0:Int),(0:Int),())).snd.fst,((ai p0 p1 p2 p3 p4 p5 (p6+p7)).getD p8 ((0:Int),(0:Int),(0:Int),())).snd.snd.fst,()),()) (bG (↑p0.length:Int) (↑p3.length:Int) false ([],(0:Int)) (List.take p8 (ai p0 p1 p2 p3 p4 p5 (p6+p7)))).fst)) (v31.q4 p8 p0 p3 p1 p2 p4 p5 p6 p7 (bG (↑p0.length:Int) (↑p3.length:Int) false ([],(0:Int)) (List.take p8 (ai p0 p1 p2 p3 p4 p5 (p6+p7)))).snd) (cq (3:Int)∧cq ((bG (↑p0.length:Int) (↑p3.length:Int) false ([],(0:Int)) (List.take p8 (ai p0 p1 p2 p3 p4 p5 (p6+p7)))).snd+(1:Int))∧v31.q4 p8 p0 p3 p1 p2 p4 p5 p6 p7 ((bG (↑p0.length:Int) (↑p3.length:Int) false ([],(0:Int)) (List.take p8 (ai p0 p1 p2 p3 p4 p5 (p6+p7)))).snd+(1:Int)))
def v31.q7 (p0 p1:List cv.den) (p2:Prop):Prop:=p0=p0∧p1=p1∧p1.reverse=p1.reverse∧p0.reverse=p0.reverse∧p0.reverse=p0.reverse∧p1.reverse=p1.reverse∧p1=p1∧p0=p0∧p2
def v31.q8 (p0:Nat) (p1 p2 p3 p4 p5 p6:List cv.den) (p7 p8:Int) (p9:Prop):Prop:=((0:Int)≤(↑p0:Int)∧(↑p0:Int)<(↑(ai p1 p2 p3 p4 p5 p6 (p7+p8)).length:Int))∧qG Tp (107:Nat) aY∧(-10000:Int)≤((ai p1 p2 p3 p4 p5 p6 (p7+p8)).getD p0 ((0:Int),(0:Int),(0:Int),())).snd.snd.fst∧((ai p1 p2 p3 p4 p5 p6 (p7+p8)).getD p0 ((0:Int),(0:Int),(0:Int),())).snd.snd.fst≤(10000:Int)∧(0:Int)≤(↑p1.length:Int)∧(↑p1.length:Int)≤(1000:Int)∧(0:Int)≤(↑p4.length:Int)∧(↑p4.length:Int)≤(1000:Int)∧qG Tp (107:Nat) aY∧p9
theorem v31:VI F1 Try.f31 [none,none] D31:=by
 refine nN fun a => ?_
 unfold D31
 split
 rotate_left
 ·trivial
 rename_i ua la wa qa a0 a1 a2 a3 a4 a5 a6 a7 ub lb wb qb b0 b1 b2 b3 b4 b5 b6 b7
 intro hp
 obtain⟨h1,h2,rfl,rfl,rfl,rfl,rfl,rfl,rfl,rfl,rfl,rfl,rfl,rfl,rfl,rfl,rfl,rfl,-⟩:=hp
 refine G3 (A:=True∧((0:Int)≤(0:Int)∧(0:Int)<(2:Int))∧Ok a7 a6 wa qa∧Ok b7 b6 wb qb∧v31.q7 a7 a6 (v31.q7 b7 b6 ((∃ (a:Nat),(0:Int)=(bG (↑a7.length:Int) (↑b7.length:Int) false ([],(0:Int)) (List.take a (ai a7 a6 qa b7 b6 qb (wa+wb)))).snd∧(0:Int)=(↑a:Int)∧[]=(bG (↑a7.length:Int) (↑b7.length:Int) false ([],(0:Int)) (List.take a (ai a7 a6 qa b7 b6 qb (wa+wb)))).fst∧a≤(ai a7 a6 qa b7 b6 qb (wa+wb)).length∧((ai a7 a6 qa b7 b6 qb (wa+wb)).length-a)<(1000000:Nat))∧∀ (a:Nat),a≤(ai a7 a6 qa b7 b6 qb (wa+wb)).length→aL (decide ((↑a:Int)<(↑(ai a7 a6 qa b7 b6 qb (wa+wb)).length:Int))) (v31.q8 a a7 a6 qa b7 b6 qb wa wb (aL (dA aY (!false,(aW ((ai a7 a6 qa b7 b6 qb (wa+wb)).getD a ((0:Int),(0:Int),(0:Int),())).snd.fst (1:Int),aW ((ai a7 a6 qa b7 b6 qb (wa+wb)).getD a ((0:Int),(0:Int),(0:Int),())).fst (1:Int),((ai a7 a6 qa b7 b6 qb (wa+wb)).getD a ((0:Int),(0:Int),(0:Int),())).snd.snd.fst+(↑b7.length:Int)-(↑a7.length:Int),()),()) (cH aY (false,(((ai a7 a6 qa b7 b6 qb (wa+wb)).getD a ((0:Int),(0:Int),(0:Int),())).fst,((ai a7 a6 qa b7 b6 qb (wa+wb)).getD a ((0:Int),(0:Int),(0:Int),())).snd.fst,((ai a7 a6 qa b7 b6 qb (wa+wb)).getD a ((0:Int),(0:Int),(0:Int),())).snd.snd.fst,()),()) (bG (↑a7.length:Int) (↑b7.length:Int) false ([],(0:Int)) (List.take a (ai a7 a6 qa b7 b6 qb (wa+wb)))).fst)) (v31.q4 a a7 b7 a6 qa b6 qb wa wb (bG (↑a7.length:Int) (↑b7.length:Int) false ([],(0:Int)) (List.take a (ai a7 a6 qa b7 b6 qb (wa+wb)))).snd) (cq (1:Int)∧aL (!(false==false&&(aW ((ai a7 a6 qa b7 b6 qb (wa+wb)).getD a ((0:Int),(0:Int),(0:Int),())).fst (2:Int)==((ai a7 a6 qa b7 b6 qb (wa+wb)).getD a ((0:Int),(0:Int),(0:Int),())).fst&&(aW ((ai a7 a6 qa b7 b6 qb (wa+wb)).getD a ((0:Int),(0:Int),(0:Int),())).snd.fst (2:Int)==((ai a7 a6 qa b7 b6 qb (wa+wb)).getD a ((0:Int),(0:Int),(0:Int),())).snd.fst&&((↑a7.length:Int)-(↑b7.length:Int)-((ai a7 a6 qa b7 b6 qb (wa+wb)).getD a ((0:Int),(0:Int),(0:Int),())).snd.snd.fst==((ai a7 a6 qa b7 b6 qb (wa+wb)).getD a ((0:Int),(0:Int),(0:Int),())).snd.snd.fst&&true))&&true))) (qG Tp (107:Nat) aY∧aL (dA aY (false,(aW ((ai a7 a6 qa b7 b6 qb (wa+wb)).getD a ((0:Int),(0:Int),(0:Int),())).fst (2:Int),aW ((ai a7 a6 qa b7 b6 qb (wa+wb)).getD a ((0:Int),(0:Int),(0:Int),())).snd.fst (2:Int),(↑a7.length:Int)-(↑b7.length:Int)-((ai a7 a6 qa b7 b6 qb (wa+wb)).getD a ((0:Int),(0:Int),(0:Int),())).snd.snd.fst,()),()) (cH aY (false,(((ai a7 a6 qa b7 b6 qb (wa+wb)).getD a ((0:Int),(0:Int),(0:Int),())).fst,((ai a7 a6 qa b7 b6 qb (wa+wb)).getD a ((0:Int),(0:Int),(0:Int),())).snd.fst,((ai a7 a6 qa b7 b6 qb (wa+wb)).getD a ((0:Int),(0:Int),(0:Int),())).snd.snd.fst,()),()) (bG (↑a7.length:Int) (↑b7.length:Int) false ([],(0:Int)) (List.take a (ai a7 a6 qa b7 b6 qb (wa+wb)))).fst)) (v31.q4 a a7 b7 a6 qa b6 qb wa wb (bG (↑a7.length:Int) (↑b7.length:Int) false ([],(0:Int)) (List.take a (ai a7 a6 qa b7 b6 qb (wa+wb)))).snd) (v31.q6 a7 a6 qa b7 b6 qb wa wb a)) (v31.q6 a7 a6 qa b7 b6 qb wa wb a)))) (cq (1:Int)∧((0:Int)≤(1:Int)∧(1:Int)<(2:Int))∧Ok b7 b6 wb qb∧Ok a7 a6 wa qa∧v31.q7 b7 b6 (v31.q7 a7 a6 ((∃ (a_1:Nat),(bG (↑a7.length:Int) (↑b7.length:Int) false ([],(0:Int)) (List.take a (ai a7 a6 qa b7 b6 qb (wa+wb)))).snd=(bG (↑b7.length:Int) (↑a7.length:Int) true (bG (↑a7.length:Int) (↑b7.length:Int) false ([],(0:Int)) (ai a7 a6 qa b7 b6 qb (wa+wb))) (List.take a_1 (ai b7 b6 qb a7 a6 qa (wb+wa)))).snd∧(0:Int)=(↑a_1:Int)∧(bG (↑a7.length:Int) (↑b7.length:Int) false ([],(0:Int)) (List.take a (ai a7 a6 qa b7 b6 qb (wa+wb)))).fst=(bG (↑b7.length:Int) (↑a7.length:Int) true (bG (↑a7.length:Int) (↑b7.length:Int) false ([],(0:Int)) (ai a7 a6 qa b7 b6 qb (wa+wb))) (List.take a_1 (ai b7 b6 qb a7 a6 qa (wb+wa)))).fst∧a_1≤(ai b7 b6 qb a7 a6 qa (wb+wa)).length∧((ai b7 b6 qb a7 a6 qa (wb+wa)).length-a_1)<(1000000:Nat))∧∀ (a:Nat),a≤(ai b7 b6 qb a7 a6 qa (wb+wa)).length→aL (decide ((↑a:Int)<(↑(ai b7 b6 qb a7 a6 qa (wb+wa)).length:Int))) (v31.q8 a b7 b6 qb a7 a6 qa wb wa (aL (dA aY (!true,(aW ((ai b7 b6 qb a7 a6 qa (wb+wa)).getD a ((0:Int),(0:Int),(0:Int),())).snd.fst (1:Int),aW ((ai b7 b6 qb a7 a6 qa (wb+wa)).getD a ((0:Int),(0:Int),(0:Int),())).fst (1:Int),((ai b7 b6 qb a7 a6 qa (wb+wa)).getD a ((0:Int),(0:Int),(0:Int),())).snd.snd.fst+(↑a7.length:Int)-(↑b7.length:Int),()),()) (cH aY (true,(((ai b7 b6 qb a7 a6 qa (wb+wa)).getD a ((0:Int),(0:Int),(0:Int),())).fst,((ai b7 b6 qb a7 a6 qa (wb+wa)).getD a ((0:Int),(0:Int),(0:Int),())).snd.fst,((ai b7 b6 qb a7 a6 qa (wb+wa)).getD a ((0:Int),(0:Int),(0:Int),())).snd.snd.fst,()),()) (bG (↑b7.length:Int) (↑a7.length:Int) true (bG (↑a7.length:Int) (↑b7.length:Int) false ([],(0:Int)) (ai a7 a6 qa b7 b6 qb (wa+wb))) (List.take a (ai b7 b6 qb a7 a6 qa (wb+wa)))).fst)) (v31.q3 a b7 a7 a6 qa b6 qb wa wb (bG (↑b7.length:Int) (↑a7.length:Int) true (bG (↑a7.length:Int) (↑b7.length:Int) false ([],(0:Int)) (ai a7 a6 qa b7 b6 qb (wa+wb))) (List.take a (ai b7 b6 qb a7 a6 qa (wb+wa)))).snd) (cq (1:Int)∧aL (!(true==true&&(aW ((ai b7 b6 qb a7 a6 qa (wb+wa)).getD a ((0:Int),(0:Int),(0:Int),())).fst (2:Int)==((ai b7 b6 qb a7 a6 qa (wb+wa)).getD a ((0:Int),(0:Int),(0:Int),())).fst&&(aW ((ai b7 b6 qb a7 a6 qa (wb+wa)).getD a ((0:Int),(0:Int),(0:Int),())).snd.fst (2:Int)==((ai b7 b6 qb a7 a6 qa (wb+wa)).getD a ((0:Int),(0:Int),(0:Int),())).snd.fst&&((↑b7.length:Int)-(↑a7.length:Int)-((ai b7 b6 qb a7 a6 qa (wb+wa)).getD a ((0:Int),(0:Int),(0:Int),())).snd.snd.fst==((ai b7 b6 qb a7 a6 qa (wb+wa)).getD a ((0:Int),(0:Int),(0:Int),())).snd.snd.fst&&true))&&true))) (qG Tp (107:Nat) aY∧aL (dA aY (true,(aW ((ai b7 b6 qb a7 a6 qa (wb+wa)).getD a ((0:Int),(0:Int),(0:Int),())).fst (2:Int),aW ((ai b7 b6 qb a7 a6 qa (wb+wa)).getD a ((0:Int),(0:Int),(0:Int),())).snd.fst (2:Int),(↑b7.length:Int)-(↑a7.length:Int)-((ai b7 b6 qb a7 a6 qa (wb+wa)).getD a ((0:Int),(0:Int),(0:Int),())).snd.snd.fst,()),()) (cH aY (true,(((ai b7 b6 qb a7 a6 qa (wb+wa)).getD a ((0:Int),(0:Int),(0:Int),())).fst,((ai b7 b6 qb a7 a6 qa (wb+wa)).getD a ((0:Int),(0:Int),(0:Int),())).snd.fst,((ai b7 b6 qb a7 a6 qa (wb+wa)).getD a ((0:Int),(0:Int),(0:Int),())).snd.snd.fst,()),()) (bG (↑b7.length:Int) (↑a7.length:Int) true (bG (↑a7.length:Int) (↑b7.length:Int) false ([],(0:Int)) (ai a7 a6 qa b7 b6 qb (wa+wb))) (List.take a (ai b7 b6 qb a7 a6 qa (wb+wa)))).fst)) (v31.q3 a b7 a7 a6 qa b6 qb wa wb (bG (↑b7.length:Int) (↑a7.length:Int) true (bG (↑a7.length:Int) (↑b7.length:Int) false ([],(0:Int)) (ai a7 a6 qa b7 b6 qb (wa+wb))) (List.take a (ai b7 b6 qb a7 a6 qa (wb+wa)))).snd) (v31.q5 b7 b6 qb a7 a6 qa wb wa a)) (v31.q5 b7 b6 qb a7 a6 qa wb wa a)))) (cq (2:Int)∧(bG (↑b7.length:Int) (↑a7.length:Int) true (bG (↑a7.length:Int) (↑b7.length:Int) false ([],(0:Int)) (ai a7 a6 qa b7 b6 qb (wa+wb))) (List.take a (ai b7 b6 qb a7 a6 qa (wb+wa)))).snd=dD a7 a6 qa b7 b6 qb wa wb∧True))))))) (by kernel_rfl) ?_
 unfold v31.q8 v31.q7 v31.q6 v31.q5 v31.q4 v31.q3 v31.q2 v31.q1
 have m0:=Ke
 have r1:cq 1:=by simp only[cq]; omega
 have r2:cq 2:=by simp only[cq]; omega
 have r3:cq 3:=by simp only[cq]; omega
 have l1:=mz (w:=wa+wb) h1 h2
 have l2:=mz (w:=wb+wa) h2 h1
 have n1:=h1.n8
 have n2:=h2.n8
 simp only[cZ,eq_self,true_and,and_true,eq_true m0,eq_true r1,eq_true r2,eq_true r3]
 simp only[jH]
 refine⟨⟨by omega,by omega⟩,h1,h2,⟨0,rfl,rfl,rfl,by omega,by first | omega | (dsimp only; omega)⟩,fun a ha=>⟨fun hl => ?_,fun hl => ?_⟩⟩
 ·have fC:a<(ai a7 a6 qa b7 b6 qb (wa+wb)).length:=by omega
  have hs:=H6 (d:=(0,0,0,())) h1 h2 fC
  exact⟨⟨by omega,by omega⟩,hs.1,hs.2,by omega,by omega,by omega,by omega,D5 fC l1 (by decide) (by decide)⟩
 ·have fC:¬ a<(ai a7 a6 qa b7 b6 qb (wa+wb)).length:=by omega
  have e:=ED (na:=(a7.length:Int)) (nb:=(b7.length:Int)) (t:=false) (q:=([],0)) fC ha
  have b:=xV (na:=(a7.length:Int)) (nb:=(b7.length:Int)) (t:=false) (ai a7 a6 qa b7 b6 qb (wa+wb)) ([],0)
  simp only at b
  refine⟨⟨by omega,by omega⟩,h2,h1,⟨0,by rw[e]; rfl,rfl,by rw[e]; rfl,by omega,by first | omega | (dsimp only; omega)⟩,fun a ha=>⟨fun hl => ?_,fun hl => ?_⟩⟩
  ·have fC:a<(ai b7 b6 qb a7 a6 qa (wb+wa)).length:=by omega
   have hs:=H6 (d:=(0,0,0,())) h2 h1 fC
   exact⟨⟨by omega,by omega⟩,hs.1,hs.2,by omega,by omega,by omega,by omega,D5 fC l2 (by omega) (by omega)⟩
  ·have fC:¬ a<(ai b7 b6 qb a7 a6 qa (wb+wa)).length:=by omega
   rw[ED fC ha]
   rfl
end Go.Tv
end
section
namespace Go.Tv
open Go Go.Di Go.Proofs
theorem four {x:Int} (h:0≤x∧x≤3):x=0∨x=1∨x=2∨x=3:=by omega
theorem xH {x n:Int} (hx:0≤x∧x≤3) (hn:0≤n∧n≤3):(0≤aW x n∧aW x n≤3)∧aW (aW x n) n=x:=by
 rcases four hx with rfl | rfl | rfl | rfl<;>rcases four hn with rfl | rfl | rfl | rfl<;>decide
theorem AW {l:List Int} (h:l.Pairwise (· < ·)):l.Nodup:=h.imp fun h=>by omega
theorem tj {n x:Int} {q:List Int}:x∈dW n q 4↔(0≤x∧x≤3)∧aW x n∈q:=by
 simp only[dW,List.mem_filter,List.mem_map,List.mem_range,decide_eq_true_eq]
 constructor
 ·rintro⟨⟨k,hk,rfl⟩,h⟩
  exact⟨by simp only[Int.ofNat_eq_natCast]; omega,h⟩
 ·rintro⟨h1,h2⟩
  exact⟨⟨x.toNat,by omega,by simp only[Int.ofNat_eq_natCast]; omega⟩,h2⟩
theorem Rm {x y:Int} {u l:List Int} (hx:0≤x∧x≤3) (hy:0≤y∧y≤3):aR y (aR x u l) (aT x u l)=aR (aW x y) u l∧aT y (aR x u l) (aT x u l)=aT (aW x y) u l:=by
 rcases four hx with rfl | rfl | rfl | rfl<;>rcases four hy with rfl | rfl | rfl | rfl<;>simp[aR,aT,show aW 0 0=0 by decide,show aW 0 1=1 by decide,show aW 0 2=2 by decide,show aW 0 3=3 by decide,show aW 1 0=1 by decide,show aW 1 1=0 by decide,show aW 1 2=3 by decide,show aW 1 3=2 by decide,show aW 2 0=2 by decide,show aW 2 1=3 by decide,show aW 2 2=0 by decide,show aW 2 3=1 by decide,show aW 3 0=3 by decide,show aW 3 1=2 by decide,show aW 3 2=1 by decide,show aW 3 3=0 by decide]
theorem Jl {x y:Int} (hx:0≤x∧x≤3) (hy:0≤y∧y≤3):aW x y=aW y x:=by
 rcases four hx with rfl | rfl | rfl | rfl<;>rcases four hy with rfl | rfl | rfl | rfl<;>decide
theorem MH {u l q:List Int} {w n:Int} (h:Ok u l w q) (hn:0≤n∧n≤3):Ok (aR n u l) (aT n u l) w (dW n q 4):=by
 have h1:=h.n3
 have h2:=h.n8
 have h3:=h.len
 have hlen:(aR n u l).length=u.length∧(aT n u l).length=u.length:=by
  rcases four hn with rfl | rfl | rfl | rfl<;>simp[aR,aT,h3]
 have hm:(∀ x∈aR n u l,x∈u∨x∈l)∧∀ x∈aT n u l,x∈u∨x∈l:=by
  rcases four hn with rfl | rfl | rfl | rfl<;>simp[aR,aT]<;>exact⟨fun x h=>by simp[h],fun x h=>by simp[h]⟩
 refine⟨by omega,by omega,by omega,fun x hx=>(hm.1 x hx).elim (h.hu x) (h.hl x),fun x hx=>(hm.2 x hx).elim (h.hu x) (h.hl x),h.w0,h.w2,?_,fun x hx=>(tj.1 hx).1,Km _ _ _⟩
 obtain⟨y,hy⟩:=List.exists_mem_of_ne_nil _ h.ne
 have:=xH (h.CY y hy) hn
 intro e
 have:aW y n∈dW n q 4:=tj.2 ⟨this.1,by rw[this.2]; exact hy⟩
 rw[e] at this
 cases this
structure Uo (g1 g2 g3:cD→cD) (uc:cD→Prop):Prop where
 sw:∀ w,uc w→uc (g1 w)∧uc (g2 w)∧uc (g3 w)
 nd:∀ w,uc w→[w,g1 w,g2 w,g3 w].Nodup
 m1:∀ w,uc w→g1 (g1 w)=w∧g2 (g1 w)=g3 w∧g3 (g1 w)=g2 w
 m2:∀ w,uc w→g1 (g2 w)=g3 w∧g2 (g2 w)=w∧g3 (g2 w)=g1 w
 m3:∀ w,uc w→g1 (g3 w)=g2 w∧g2 (g3 w)=g1 w∧g3 (g3 w)=w
def qu (g1 g2 g3:cD→cD) (w:cD):List cD:=[w,g1 w,g2 w,g3 w]
def E5 (g1 g2 g3:cD→cD) (q:List cD×Int) (w:cD):List cD×Int :=
 (cH aY w q.1,bif dA aY (g1 w) (cH aY w q.1) then q.2 else bif (!Ft (g2 w) w&&dA aY (g2 w) (cH aY w q.1)) then q.2 else bif dA aY (g3 w) (cH aY w q.1) then q.2 else q.2+1)
section
variable {g1 g2 g3:cD→cD} {uc:cD→Prop}
theorem tg (G:Uo g1 g2 g3 uc) {w v:cD} (hw:uc w) (hv:v∈qu g1 g2 g3 w):uc v∧∀ x,x∈qu g1 g2 g3 v↔x∈qu g1 g2 g3 w:=by
 have d:=G.sw w hw
 have a:=G.m1 w hw
 have b:=G.m2 w hw
 have c:=G.m3 w hw
 simp only[qu,List.mem_cons,List.not_mem_nil,or_false] at hv
 rcases hv with rfl | rfl | rfl | rfl
 ·exact⟨hw,fun x=>Iff.rfl⟩
 ·refine⟨d.1,fun x => ?_⟩
  simp only[qu,List.mem_cons,List.not_mem_nil,or_false,a.1,a.2.1,a.2.2]
  constructor<;>(rintro(h | h | h | h)<;>simp[h])
 ·refine⟨d.2.1,fun x => ?_⟩
  simp only[qu,List.mem_cons,List.not_mem_nil,or_false,b.1,b.2.1,b.2.2]
  constructor<;>(rintro(h | h | h | h)<;>simp[h])
 ·refine⟨d.2.2,fun x => ?_⟩
  simp only[qu,List.mem_cons,List.not_mem_nil,or_false,c.1,c.2.1,c.2.2]
  constructor<;>(rintro(h | h | h | h)<;>simp[h])
theorem Cw {x w:cD} {S:List cD}:dA aY x (cH aY w S)=true↔x=w∨x∈S:=by
 rw[ye,cH]
 cases h:dA aY w S
 ·simp[or_comm]
 ·have:=ye.1 h
  simp only[cond_true]
  exact⟨.inr,fun h=>h.elim (fun e=>e▸this) id⟩
theorem RF {x y:cD}:Ft x y=true↔x=y:=by
 obtain⟨t,⟨u,l,s,c⟩,c'⟩:=x
 obtain⟨t2,⟨u2,l2,s2,c2⟩,c3⟩:=y
 simp only[Ft,Bool.and_eq_true,beq_iff_eq,and_true,Prod.mk.injEq]
theorem Ru {x w:cD} {S:List cD}:x∈cH aY w S↔x=w∨x∈S:=by rw[← ye,Cw]
theorem yq (G:Uo g1 g2 g3 uc):∀ (W pre S:List cD) (n:Int) (O:List cD),(pre++W).Nodup→(∀ w∈pre++W,uc w)→(∀ x,x∈S↔x∈pre)→O.Nodup→(O.length:Int)=4*n→(∀ x,x∈O↔∃ v∈pre,x∈qu g1 g2 g3 v) →
  ∃ O':List cD,O'.Nodup∧(O'.length:Int)=4*(W.foldl (E5 g1 g2 g3) (S,n)).2∧∀ x,x∈O'↔∃ v∈pre++W,x∈qu g1 g2 g3 v
 | [],pre,S,n,O,h1,h2,h3,h4,h5,h6=>⟨O,h4,h5,by simpa using h6⟩
 | w::W,pre,S,n,O,h1,h2,h3,h4,h5,h6=>by
  have dw:uc w:=h2 w (by simp)
  have ql:∀ v∈pre,uc v:=fun v hv=>h2 v (by simp[hv])
  have hnw:w ∉ pre:=fun hm=>by
   have:=(List.nodup_append.1 h1).2.2
   exact this w hm w (by simp) rfl
  have e:pre++w::W=(pre++[w])++W:=by simp
  rw[e] at h1 h2
  have hS:∀ x,x∈cH aY w S↔x∈pre++[w]:=fun x=>by rw[Ru,h3]; simp[or_comm]
  have nd:=G.nd w dw
  simp only[List.nodup_cons,List.mem_cons,List.not_mem_nil,or_false,not_or,not_false_eq_true,List.nodup_nil,and_true] at nd
  obtain⟨⟨n1,n2,n3⟩,-,-⟩:=nd
  have old:∀ v∈pre,v∈qu g1 g2 g3 w→∃ O':List cD,O'.Nodup∧(O'.length:Int)=4*(W.foldl (E5 g1 g2 g3) (cH aY w S,n)).2∧∀ x,x∈O'↔∃ v∈(pre++[w])++W,x∈qu g1 g2 g3 v:=fun v hv ho=>by
   refine yq G W (pre++[w]) _ n O h1 h2 hS h4 h5 fun x => ?_
   rw[h6]
   constructor
   ·rintro⟨u,hu,hx⟩; exact⟨u,by simp[hu],hx⟩
   ·rintro⟨u,hu,hx⟩
    rcases List.mem_append.1 hu with hu | hu
    ·exact⟨u,hu,hx⟩
    ·rw[List.mem_singleton.1 hu] at hx
     exact⟨v,hv,((tg G dw ho).2 x).2 hx⟩
  have o1:g1 w∈qu g1 g2 g3 w:=by simp[qu]
  have o2:g2 w∈qu g1 g2 g3 w:=by simp[qu]
  have o3:g3 w∈qu g1 g2 g3 w:=by simp[qu]
  have inp:∀ {x},x≠w→dA aY x (cH aY w S)=true→x∈pre:=fun hx hm=>by
   rcases Cw.1 hm with h | h
   ·exact(hx h).elim
   ·exact(h3 _).1 h
  have nin:∀ {x},dA aY x (cH aY w S)=false→x ∉ pre:=fun hm hp=>by
   rw[Cw.2 (.inr ((h3 _).2 hp))] at hm; cases hm
  rw[e]
  simp only[List.foldl_cons]
  have hq:(!Ft (g2 w) w)=true:=by
   cases h:Ft (g2 w) w
   ·rfl
   ·exact absurd (RF.1 h).symm n2
  cases c1:dA aY (g1 w) (cH aY w S) with
  | true =>
   rw[show E5 g1 g2 g3 (S,n) w=(cH aY w S,n) by simp only[E5,c1,cond_true]]
   exact old _ (inp (Ne.symm n1) c1) o1
  | false =>
   cases c2:dA aY (g2 w) (cH aY w S) with
   | true =>
    rw[show E5 g1 g2 g3 (S,n) w=(cH aY w S,n) by simp only[E5,c1,c2,hq,Bool.and_self,cond_true,cond_false]]
    exact old _ (inp (Ne.symm n2) c2) o2
   | false =>
    cases c3:dA aY (g3 w) (cH aY w S) with
    | true =>
     rw[show E5 g1 g2 g3 (S,n) w=(cH aY w S,n) by simp only[E5,c1,c2,c3,Bool.and_false,cond_true,cond_false]]
     exact old _ (inp (Ne.symm n3) c3) o3
    | false =>
     rw[show E5 g1 g2 g3 (S,n) w=(cH aY w S,n+1) by simp only[E5,c1,c2,c3,Bool.and_false,cond_false]]
     have hno:∀ x∈qu g1 g2 g3 w,x ∉ O:=fun x hx ho=>by
      obtain⟨v,hv,hxv⟩:=(h6 x).1 ho
      have k1:=(tg G (ql v hv) hxv).2
      have k2:=(tg G dw hx).2
      have:v∈qu g1 g2 g3 w:=(k2 v).1 ((k1 v).2 (by simp[qu]))
      simp only[qu,List.mem_cons,List.not_mem_nil,or_false] at this
      rcases this with rfl | rfl | rfl | rfl
      ·exact hnw hv
      ·exact nin c1 hv
      ·exact nin c2 hv
      ·exact nin c3 hv
     refine yq G W (pre++[w]) _ (n+1) (O++qu g1 g2 g3 w) h1 h2 hS ?_ ?_ fun x => ?_
     ·rw[List.nodup_append]
      exact⟨h4,G.nd w dw,fun a ha b hb kV=>hno b hb (kV▸ha)⟩
     ·rw[List.length_append,show (qu g1 g2 g3 w).length=4 from rfl]; omega
     ·rw[List.mem_append,h6]
      constructor
      ·rintro(⟨v,hv,hx⟩ | hx)
       ·exact⟨v,by simp[hv],hx⟩
       ·exact⟨w,by simp,hx⟩
      ·rintro⟨v,hv,hx⟩
       rcases List.mem_append.1 hv with hv | hv
       ·exact .inl ⟨v,hv,hx⟩
       ·rw[List.mem_singleton.1 hv] at hx; exact .inr hx
theorem yp (G:Uo g1 g2 g3 uc) {W:List cD} (h1:W.Nodup) (h2:∀ w∈W,uc w):∃ O:List cD,O.Nodup∧(O.length:Int)=4*(W.foldl (E5 g1 g2 g3) ([],0)).2∧∀ x,x∈O↔∃ v∈W,x∈qu g1 g2 g3 v :=
 yq G W [] [] 0 [] h1 h2 (fun x=>Iff.rfl) List.nodup_nil rfl (fun x=>by simp)
theorem pU {α:Type}:∀ {l m:List α},l.Nodup→(∀ x∈l,x∈m)→l.length≤m.length
 | [],_,_,_=>Nat.zero_le _
 | a::l,m,h,hs=>by
  obtain⟨m1,m2,rfl⟩:=List.append_of_mem (hs a (by simp))
  rw[List.nodup_cons] at h
  have:=pU (l:=l) (m:=m1++m2) h.2 fun x hx=>by
   have:=hs x (by simp[hx])
   rcases List.mem_append.1 this with k | k
   ·simp[k]
   ·rcases List.mem_cons.1 k with k | k
    ·subst k; exact(h.1 hx).elim
    ·simp[k]
  simp only[List.length_append,List.length_cons] at this ⊢
  omega
theorem RA (G:Uo g1 g2 g3 uc) {W:List cD} (h1:W.Nodup) (h2:∀ w∈W,uc w):(W.length:Int)≤4*(W.foldl (E5 g1 g2 g3) ([],0)).2:=by
 obtain⟨O,k1,k2,k3⟩:=yp G h1 h2
 have:=pU h1 fun x hx=>(k3 x).2 ⟨x,hx,by simp[qu]⟩
 omega
theorem fold_eq {g1' g2' Xk:cD→cD} (G:Uo g1 g2 g3 uc) (G':Uo g1' g2' Xk uc) {W W':List cD} (h1:W.Nodup) (h2:∀ w∈W,uc w) (C9:W'.Nodup) (Yb:∀ w∈W',uc w) {φ:cD→cD} (hφ:∀ v,uc v→φ (φ v)=v) (hm:∀ w,w∈W'↔∃ v∈W,w=φ v)
  (hc:∀ v,uc v→g1' (φ v)=φ (g1 v)∧g2' (φ v)=φ (g2 v)∧Xk (φ v)=φ (g3 v)):(W'.foldl (E5 g1' g2' Xk) ([],0)).2=(W.foldl (E5 g1 g2 g3) ([],0)).2:=by
 obtain⟨O,k1,k2,k3⟩:=yp G h1 h2
 obtain⟨O',k1',k2',k3'⟩:=yp G' C9 Yb
 have hd:∀ x∈O,uc x:=fun x hx=>by
  obtain⟨v,hv,hx⟩:=(k3 x).1 hx
  exact(tg G (h2 v hv) hx).1
 have lQ:∀ y,y∈O'↔y∈O.map φ:=fun y=>by
  rw[k3',List.mem_map]
  constructor
  ·rintro⟨v',hv',hy⟩
   obtain⟨v,hv,rfl⟩:=(hm v').1 hv'
   have c:=hc v (h2 v hv)
   simp only[qu,List.mem_cons,List.not_mem_nil,or_false,c.1,c.2.1,c.2.2] at hy
   rcases hy with rfl | rfl | rfl | rfl
   ·exact⟨v,(k3 _).2 ⟨v,hv,by simp[qu]⟩,rfl⟩
   ·exact⟨g1 v,(k3 _).2 ⟨v,hv,by simp[qu]⟩,rfl⟩
   ·exact⟨g2 v,(k3 _).2 ⟨v,hv,by simp[qu]⟩,rfl⟩
   ·exact⟨g3 v,(k3 _).2 ⟨v,hv,by simp[qu]⟩,rfl⟩
  ·rintro⟨x,hx,rfl⟩
   obtain⟨v,hv,hx⟩:=(k3 x).1 hx
   have c:=hc v (h2 v hv)
   refine⟨φ v,(hm _).2 ⟨v,hv,rfl⟩,?_⟩
   simp only[qu,List.mem_cons,List.not_mem_nil,or_false] at hx
   rcases hx with rfl | rfl | rfl | rfl<;>simp[qu,c.1,c.2.1,c.2.2]
 have nd:(O.map φ).Nodup:=by
  rw[List.nodup_iff_pairwise_ne,List.pairwise_map]
  refine List.Pairwise.imp_of_mem (fun {a b} ha hb kV he=>kV ?_) (List.nodup_iff_pairwise_ne.1 k1)
  rw[← hφ a (hd a ha),← hφ b (hd b hb),he]
 have l1:=pU k1' fun x hx=>(lQ x).1 hx
 have l2:=pU nd fun x hx=>(lQ x).2 hx
 rw[List.length_map] at l1 l2
 omega
end
end Go.Tv
end
section
namespace Go.Tv
open Go Go.Di Go.Proofs
abbrev Xm:=Int×Int×Int×Unit
def G1 (na nb:Int) (w:cD):cD:=bif w.1 then o1 nb na w else o1 na nb w
def G2 (na nb:Int) (w:cD):cD:=bif w.1 then o2 nb na w else o2 na nb w
def Vl (w:cD):Prop:=(0≤w.2.1.1∧w.2.1.1≤3)∧0≤w.2.1.2.1∧w.2.1.2.1≤3
theorem xx {u:Int} (h:0≤u∧u≤3):aW (aW u 1) 1=u∧aW (aW u 1) 2=aW u 3∧aW (aW u 1) 3=aW u 2∧aW (aW u 2) 1=aW u 3∧aW (aW u 2) 2=u∧aW (aW u 2) 3=aW u 1∧aW (aW u 3) 1=aW u 2∧aW (aW u 3) 2=aW u 1∧aW (aW u 3) 3=u:=by
 rcases four h with rfl | rfl | rfl | rfl<;>decide
theorem xn {u:Int} (h:0≤u∧u≤3):u≠aW u 2∧aW u 1≠aW u 3∧(0≤aW u 1∧aW u 1≤3)∧(0≤aW u 2∧aW u 2≤3)∧(0≤aW u 3∧aW u 3≤3):=by
 rcases four h with rfl | rfl | rfl | rfl<;>decide
theorem dX {t t':Bool} {u l s u' l' s':Int} (h1:t=t') (h2:u=u') (h3:l=l') (h4:s=s'):((t,(u,l,s,()),()):cD)=(t',(u',l',s',()),()):=by subst h1 h2 h3 h4; rfl
theorem Lz (na nb:Int):Uo (G1 na nb) (G2 na nb) o3 Vl where
 sw:=fun w h=>by
  obtain⟨t,⟨u,l,s,c⟩,c'⟩:=w
  have a:=xn h.1
  have b:=xn h.2
  cases t<;>exact⟨⟨b.2.2.1,a.2.2.1⟩,⟨a.2.2.2.1,b.2.2.2.1⟩,⟨b.2.2.2.2,a.2.2.2.2⟩⟩
 nd:=fun w h=>by
  obtain⟨t,⟨u,l,s,c⟩,c'⟩:=w
  have a:=xn h.1
  have b:=xn h.2
  simp only at a b
  cases t<;>simp[G1,G2,o1,o2,o3,a.1,a.2.1,b.1,b.2.1]
 m1:=fun w h=>by
  obtain⟨t,⟨u,l,s,c⟩,c'⟩:=w
  obtain⟨a1,a2,a3,-⟩:=xx h.1
  obtain⟨b1,b2,b3,-⟩:=xx h.2
  cases t<;>exact⟨dX rfl a1 b1 (by first | omega | (simp only[G1,G2,o1,o2,o3,Bool.not_true,Bool.not_false,cond_true,cond_false]; omega)),dX rfl b2 a2 (by first | omega | (simp only[G1,G2,o1,o2,o3,Bool.not_true,Bool.not_false,cond_true,cond_false]; omega)),dX rfl a3 b3 (by first | omega | (simp only[G1,G2,o1,o2,o3,Bool.not_true,Bool.not_false,cond_true,cond_false]; omega))⟩
 m2:=fun w h=>by
  obtain⟨t,⟨u,l,s,c⟩,c'⟩:=w
  obtain⟨-,-,-,a1,a2,a3,-⟩:=xx h.1
  obtain⟨-,-,-,b1,b2,b3,-⟩:=xx h.2
  cases t<;>exact⟨dX rfl b1 a1 (by first | omega | (simp only[G1,G2,o1,o2,o3,Bool.not_true,Bool.not_false,cond_true,cond_false]; omega)),dX rfl a2 b2 (by first | omega | (simp only[G1,G2,o1,o2,o3,Bool.not_true,Bool.not_false,cond_true,cond_false]; omega)),dX rfl b3 a3 (by first | omega | (simp only[G1,G2,o1,o2,o3,Bool.not_true,Bool.not_false,cond_true,cond_false]; omega))⟩
 m3:=fun w h=>by
  obtain⟨t,⟨u,l,s,c⟩,c'⟩:=w
  obtain⟨-,-,-,-,-,-,a1,a2,a3⟩:=xx h.1
  obtain⟨-,-,-,-,-,-,b1,b2,b3⟩:=xx h.2
  cases t<;>exact⟨dX rfl a1 b1 (by first | omega | (simp only[G1,G2,o1,o2,o3,Bool.not_true,Bool.not_false,cond_true,cond_false]; omega)),dX rfl b2 a2 (by first | omega | (simp only[G1,G2,o1,o2,o3,Bool.not_true,Bool.not_false,cond_true,cond_false]; omega)),dX rfl a3 b3 (by first | omega | (simp only[G1,G2,o1,o2,o3,Bool.not_true,Bool.not_false,cond_true,cond_false]; omega))⟩
def BA (L M:List Xm):List cD:=L.map (fun s=>(false,s,()))++M.map fun s=>(true,s,())
theorem OE {na nb:Int} {L M:List Xm}:(bG nb na true (bG na nb false ([],0) L) M).2=((BA L M).foldl (E5 (G1 na nb) (G2 na nb) o3) ([],0)).2:=by
 rw[BA,List.foldl_append,List.foldl_map,List.foldl_map]
 rfl
theorem iG {L M:List Xm} {t:Bool} {s:Xm} {c:Unit}:(t,s,c)∈BA L M↔(t=false∧s∈L)∨(t=true∧s∈M):=by
 simp only[BA,List.mem_append,List.mem_map,Prod.mk.injEq]
 constructor
 ·rintro(⟨a,h,rfl,rfl,-⟩ | ⟨a,h,rfl,rfl,-⟩)
  ·exact .inl ⟨rfl,h⟩
  ·exact .inr ⟨rfl,h⟩
 ·rintro(⟨rfl,h⟩ | ⟨rfl,h⟩)
  ·exact .inl ⟨s,h,rfl,rfl,trivial⟩
  ·exact .inr ⟨s,h,rfl,rfl,trivial⟩
theorem nA {α β:Type} {f:α→β} (hf:∀ a b,f a=f b→a=b) {l:List α} (h:l.Nodup):(l.map f).Nodup:=by
 rw[List.nodup_iff_pairwise_ne,List.pairwise_map]
 exact(List.nodup_iff_pairwise_ne.1 h).imp fun h e=>h (hf _ _ e)
theorem mK {L M:List Xm} (h1:L.Nodup) (h2:M.Nodup):(BA L M).Nodup:=by
 rw[BA,List.nodup_append]
 refine⟨nA (fun a b e => ?_) h1,nA (fun a b e => ?_) h2,fun a ha b hb kV => ?_⟩
 ·simp only[Prod.mk.injEq,true_and,and_true] at e; exact e
 ·simp only[Prod.mk.injEq,true_and,and_true] at e; exact e
 ·subst kV
  simp only[List.mem_map] at ha hb
  obtain⟨x,-,rfl⟩:=ha
  obtain⟨y,-,h⟩:=hb
  cases h
section
variable {ua la qa ub lb qb:List Int} {w wa wb:Int}
theorem jA {s:Xm}:s∈ai ua la qa ub lb qb w↔s.1∈qa∧s.2.1∈qb∧s.2.2.1∈pe (aT s.1 ua la) (aR s.2.1 ub lb) w (ub.length+ua.length+1):=by
 obtain⟨u,l,s,c⟩:=s
 simp only[ai,List.mem_flatMap,List.mem_map,Prod.mk.injEq]
 constructor
 ·rintro⟨x,hx,y,hy,k,hk,rfl,rfl,rfl,-⟩; exact⟨hx,hy,hk⟩
 ·rintro⟨hx,hy,hk⟩; exact⟨u,hx,l,hy,s,hk,rfl,rfl,rfl,trivial⟩
theorem Oh {a b:List Int} {v:Int} {k:Nat}:(pe a b v k).Nodup:=by
 rw[pe]
 refine List.Nodup.sublist List.filter_sublist (nA (fun a b e=>by omega) List.nodup_range)
theorem ez (ha:Ok ua la wa qa) (hb:Ok ub lb wb qb):(ai ua la qa ub lb qb w).Nodup:=by
 have na:=List.nodup_iff_pairwise_ne.1 (AW ha.PM)
 have nb:=List.nodup_iff_pairwise_ne.1 (AW hb.PM)
 rw[List.nodup_iff_pairwise_ne,ai,List.pairwise_flatMap]
 refine⟨fun x _ => ?_,na.imp fun hne p hp q hq e=>hne ?_⟩
 ·rw[List.pairwise_flatMap]
  refine⟨fun y _ => ?_,nb.imp fun hne p hp q hq e=>hne ?_⟩
  ·refine List.nodup_iff_pairwise_ne.1 (nA (fun a b e => ?_) Oh)
   simp only[Prod.mk.injEq,true_and,and_true] at e; exact e
  ·simp only[List.mem_map] at hp hq
   obtain⟨_,_,rfl⟩:=hp
   obtain⟨_,_,rfl⟩:=hq
   simp only[Prod.mk.injEq] at e
   exact e.2.1
 ·simp only[List.mem_flatMap,List.mem_map] at hp hq
  obtain⟨_,_,_,_,rfl⟩:=hp
  obtain⟨_,_,_,_,rfl⟩:=hq
  simp only[Prod.mk.injEq] at e
  exact e.1
theorem nv {wa' wb':Int} (ha:Ok ua la wa qa) (hb:Ok ub lb wb qb):∀ x∈BA (ai ua la qa ub lb qb wa') (ai ub lb qb ua la qa wb'),Vl x:=fun x hx=>by
 obtain⟨t,s,c⟩:=x
 rcases iG.1 hx with ⟨-,h⟩ | ⟨-,h⟩
 ·have:=jA.1 h
  exact⟨ha.CY _ this.1,hb.CY _ this.2.1⟩
 ·have:=jA.1 h
  exact⟨hb.CY _ this.1,ha.CY _ this.2.1⟩
theorem mF (ha:Ok ua la wa qa) (hb:Ok ub lb wb qb):dD ua la qa ub lb qb wa wb=((BA (ai ua la qa ub lb qb (wa+wb)) (ai ub lb qb ua la qa (wb+wa))).foldl (E5 (G1 ua.length ub.length) (G2 ua.length ub.length) o3) ([],0)).2:=by
 rw[dD,OE]
theorem Nj (ha:Ok ua la wa qa) (hb:Ok ub lb wb qb):dD ub lb qb ua la qa wb wa=dD ua la qa ub lb qb wa wb:=by
 rw[mF ha hb,mF hb ha]
 refine fold_eq (Lz _ _) (Lz _ _) (mK (ez ha hb) (ez hb ha)) (nv ha hb) (mK (ez hb ha) (ez ha hb)) (nv hb ha) (φ:=fun x=>(!x.1,x.2)) (fun v _=>by simp) (fun x => ?_) (fun v _ => ?_)
 ·obtain⟨t,s,c⟩:=x
  rw[iG]
  constructor
  ·rintro(⟨rfl,h⟩ | ⟨rfl,h⟩)
   ·exact⟨(true,s,c),iG.2 (.inr ⟨rfl,h⟩),rfl⟩
   ·exact⟨(false,s,c),iG.2 (.inl ⟨rfl,h⟩),rfl⟩
  ·rintro⟨⟨t',s',c'⟩,h,e⟩
   simp only[Prod.mk.injEq] at e
   obtain⟨rfl,rfl,-⟩:=e
   rcases iG.1 h with ⟨rfl,k⟩ | ⟨rfl,k⟩
   ·exact .inr ⟨rfl,k⟩
   ·exact .inl ⟨rfl,k⟩
 ·obtain⟨t,s,c⟩:=v
  cases t<;>exact⟨rfl,rfl,rfl⟩
theorem HN (ha:Ok ua la wa qa) (hb:Ok ub lb wb qb):dD ua la qa ub lb qb wa wb≤((ai ua la qa ub lb qb (wa+wb)).length:Int)+(ai ub lb qb ua la qa (wb+wa)).length∧0≤dD ua la qa ub lb qb wa wb:=by
 have h1:=xV (na:=(ua.length:Int)) (nb:=(ub.length:Int)) (t:=false) (ai ua la qa ub lb qb (wa+wb)) ([],0)
 have h2:=xV (na:=(ub.length:Int)) (nb:=(ua.length:Int)) (t:=true) (ai ub lb qb ua la qa (wb+wa)) (bG ua.length ub.length false ([],0) (ai ua la qa ub lb qb (wa+wb)))
 simp only at h1
 rw[dD]
 omega
theorem HO (ha:Ok ua la wa qa) (hb:Ok ub lb wb qb):((ai ua la qa ub lb qb (wa+wb)).length:Int)+(ai ub lb qb ua la qa (wb+wa)).length≤4*dD ua la qa ub lb qb wa wb:=by
 have:=RA (Lz ua.length ub.length) (mK (ez (w:=wa+wb) ha hb) (ez (w:=wb+wa) hb ha)) (nv ha hb)
 rw[← mF ha hb,BA,List.length_append,List.length_map,List.length_map] at this
 omega
def PY (x:Int) (v:cD):cD:=bif v.1 then (true,(v.2.1.1,aW v.2.1.2.1 x,v.2.1.2.2.1,()),()) else (false,(aW v.2.1.1 x,v.2.1.2.1,v.2.1.2.2.1,()),())
theorem xc {u x:Int} (h:0≤u∧u≤3) (hx:0≤x∧x≤3):aW (aW u x) 1=aW (aW u 1) x∧aW (aW u x) 2=aW (aW u 2) x∧aW (aW u x) 3=aW (aW u 3) x:=by
 rcases four h with rfl | rfl | rfl | rfl<;>rcases four hx with rfl | rfl | rfl | rfl<;>decide
theorem Nk (ha:Ok ua la wa qa) (hb:Ok ub lb wb qb) {x:Int} (hx:0≤x∧x≤3):dD (aR x ua la) (aT x ua la) (dW x qa 4) ub lb qb wa wb=dD ua la qa ub lb qb wa wb:=by
 have hc:=MH ha hx
 have hlen:=sV (n:=x) ha.len
 rw[mF ha hb,mF hc hb,hlen.1]
 have key:∀ {u:Int},0≤u∧u≤3→aR u (aR x ua la) (aT x ua la)=aR (aW u x) ua la∧aT u (aR x ua la) (aT x ua la)=aT (aW u x) ua la:=fun hu=>by
  have:=Rm (u:=ua) (l:=la) hx hu
  rw[Jl hx hu] at this
  exact this
 have s1:∀ {u l s:Int},(u,l,s,())∈ai (aR x ua la) (aT x ua la) (dW x qa 4) ub lb qb (wa+wb)↔(0≤u∧u≤3)∧(aW u x,l,s,())∈ai ua la qa ub lb qb (wa+wb):=fun {u l s}=>by
  rw[jA,jA,tj,hlen.1]
  constructor
  ·rintro⟨⟨h1,h2⟩,h3,h4⟩
   exact⟨h1,h2,h3,by rw[(key h1).2] at h4; exact h4⟩
  ·rintro⟨h1,h2,h3,h4⟩
   exact⟨⟨h1,h2⟩,h3,by rw[(key h1).2]; exact h4⟩
 have s2:∀ {u l s:Int},(u,l,s,())∈ai ub lb qb (aR x ua la) (aT x ua la) (dW x qa 4) (wb+wa)↔(0≤l∧l≤3)∧(u,aW l x,s,())∈ai ub lb qb ua la qa (wb+wa):=fun {u l s}=>by
  rw[jA,jA,tj,hlen.1]
  constructor
  ·rintro⟨h1,⟨h2,h3⟩,h4⟩
   exact⟨h2,h1,h3,by rw[(key h2).1] at h4; exact h4⟩
  ·rintro⟨h2,h1,h3,h4⟩
   exact⟨h1,⟨h2,h3⟩,by rw[(key h2).1]; exact h4⟩
 have inv:∀ v,Vl v→PY x (PY x v)=v:=fun v hv=>by
  obtain⟨t,⟨u,l,s,c⟩,c'⟩:=v
  cases t
  ·exact dX rfl (xH hv.1 hx).2 rfl rfl
  ·exact dX rfl rfl (xH hv.2 hx).2 rfl
 refine fold_eq (Lz _ _) (Lz _ _) (mK (ez ha hb) (ez hb ha)) (nv ha hb) (mK (ez hc hb) (ez hb hc)) (nv hc hb) (φ:=PY x) inv (fun v => ?_) (fun v hv => ?_)
 ·constructor
  ·intro h
   have hd:=nv hc hb v h
   refine⟨PY x v,?_,(inv v hd).symm⟩
   obtain⟨t,⟨u,l,s,c⟩,c'⟩:=v
   rcases iG.1 h with ⟨rfl,k⟩ | ⟨rfl,k⟩
   ·exact iG.2 (.inl ⟨rfl,(s1.1 k).2⟩)
   ·exact iG.2 (.inr ⟨rfl,(s2.1 k).2⟩)
  ·rintro⟨v,h,rfl⟩
   have hd:=nv ha hb v h
   obtain⟨t,⟨u,l,s,c⟩,c'⟩:=v
   rcases iG.1 h with ⟨rfl,k⟩ | ⟨rfl,k⟩
   ·have:=xH hd.1 hx
    exact iG.2 (.inl ⟨rfl,s1.2 ⟨this.1,by rw[this.2]; exact k⟩⟩)
   ·have:=xH hd.2 hx
    exact iG.2 (.inr ⟨rfl,s2.2 ⟨this.1,by rw[this.2]; exact k⟩⟩)
 ·obtain⟨t,⟨u,l,s,c⟩,c'⟩:=v
  have a:=xc hv.1 hx
  have b:=xc hv.2 hx
  cases t
  ·exact⟨dX rfl rfl a.1 rfl,dX rfl a.2.1 rfl rfl,dX rfl rfl a.2.2 rfl⟩
  ·exact⟨dX rfl b.1 rfl rfl,dX rfl rfl b.2.1 rfl,dX rfl b.2.2 rfl rfl⟩
end
end Go.Tv
end
