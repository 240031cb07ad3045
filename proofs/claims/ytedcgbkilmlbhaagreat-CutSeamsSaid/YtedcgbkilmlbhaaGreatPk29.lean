import Derived.Test.YtedcgbkilmlbhaaGreatPk28
import Derived.OwnWalk
section
namespace Go.Co
open Go Go.Conc Go.Proofs
variable {af:Machine→Trace→Prop} {main:Bool} {K:Gm→Goroutine→World→Prop} {p:Pc} {γ:So} {w:World}
def Qb (low up:List Int) (cD:Int) (s:Int):Bool:=decide (3≤(uQ low up s).2.2)&&decide ((uQ low up s).2.1-(uQ low up s).1≤cD)
def O3 (low up:List Int) (cD:Int) (k:Nat):List Int:=((List.range k).map fun(j:Nat)=>(j:Int)-up.length).filter (Qb low up cD)
def ny (low up:List Int) (cD:Int):List Int:=O3 low up cD (up.length+low.length+1)
theorem SA (low up:List Int) (cD:Int) (k:Nat):O3 low up cD (k+1)=O3 low up cD k++if Qb low up cD ((k:Int)-up.length) then [(k:Int)-up.length] else []:=by
 unfold O3
 rw[jM,gm,oZ]
 congr 1
 simp only[bQ,fK,List.filter_cons,List.filter_nil]
theorem FQ (low up:List Int) (cD:Int) (k:Nat):(O3 low up cD k).length≤k:=by
 unfold O3
 exact aS (qR _ _) (by simp)
theorem aaN {low up:List Int} (Pe:UB low) (Uo:UB up) (s:Int) (k:Nat):0≤(A1 low up s k).1∧(A1 low up s k).1≤18∧0≤(A1 low up s k).2.1∧(A1 low up s k).2.1≤18:=by
 have hg:∀ (l:List Int),UB l→∀ i,0≤l.getD i 0∧l.getD i 0≤9:=by
  intro l h i
  cases hi:l[i]? with
  | none=>simp[List.getD,hi]
  | some x =>
   have:=h.2 i x hi
   simpa [List.getD,hi] using this
 induction k with
 | zero=>simp[A1]
 | succ k ih =>
  rw[sL]
  have h1:=hg up Uo k
  have h2:=hg low Pe ((k:Int)+s).toNat
  unfold Jp
  split
  ·exact ih
  ·split
   ·simp only; omega
   ·simp only
    refine⟨?_,?_,?_,?_⟩<;>split<;>omega
def acz (ua lb:Value) (A B:Option Addr) (ca cb:Nat) (low up:List Int) (cD:Int) (bA bB:Nat) (out:Value) (s:Int) (u:Nat→Value):Act :=
 ⟨#[.agg #[ua,.slice A low.length ca],.agg #[.slice B up.length cb,lb],.int .i64 cD,.pointer (some ⟨bA,0,none⟩),.pointer (some ⟨bB,0,none⟩),u 5,u 6,out,.int .i64 s,u 9,u 10,u 11,u 12,u 13,u 14,u 15,u 16,u 17,u 18,u 19,u 20,u 21,u 22,u 23,u 24,u 25,u 26,u 27,u 28,u 29,u 30,u 31,u 32,u 33,u 34,u 35,u 36,u 37,u 38,u 39,u 40,u 41,u 42,u 43,u 44],[]⟩
theorem Qz:(Tryz.prog.info? 3).map (fun i=>(i.zero,i.size,i.bytes))=some (some (.int .i64 0),1,8):=by kernel_rfl
theorem mixed:Tryz.prog.follows .mixedOrders=true:=by kernel_rfl
abbrev XE (l:List Int):List Value:=l.map fun x => .int .i64 x
set_option maxRecDepth 100000 in
set_option maxHeartbeats 2000000 in
theorem Sz (C:KC Tryz.prog main K Az E1) (hp:p ≠ .ret) {ua ub la lb:Value} {low up:List Int} (cD:Int) (hl:xZ γ w la low) (hu:xZ γ w ub up) (Pe:UB low) (Uo:UB up) :
  wV K Tryz.prog (p,γ) 103 #[.agg #[ua,la],.agg #[ub,lb],.int .i64 cD] w fun γ' v w'=>γ'.1=p∧kQ γ'.2 w' w.heap.size 3 1 v (ny low up cD).length (XE (ny low up cD))∧Kept γ w γ'.2 w':=by
 obtain⟨i0,hi,GK,O9,hz2⟩:=info_parts Qz
 have LH:=Pe.1
 have Bt:=Uo.1
 refine Cb Tryz.func103 (by rfl) rfl ?_
 simp only[Tryz.ntmps103,lg,List.length_cons,List.length_nil,Nat.reduceAdd,Nat.reduceSub,Array.replicate_succ,Array.replicate_zero,List.push_toArray,List.append_toArray,List.nil_append,List.cons_append]
 refine aY C (cr C ?_)
 refine pF C hp (ob := ?ob1) rfl (by rfl) (fun w=>run_eq_of fun K hK => ?r1) (fun w => ?e1) ?h1
 case r1=>go_simp; exact hK
 case e1=>simp[go_sem]
 intro w1 Pw
 try walk_nrm
 have rT:=(Kept.rely Pw).trans (Kept.alloc γ w1 w1.heap.size (.cells #[ua,la] 91))
 have Uv:bE _ _ ⟨w1.heap.size,0,none⟩ ua:=bE.fresh (γ:=γ) (w:=w1) (cs:=#[ua,la]) (t:=91) rfl rfl
 have Lp:bE _ _ ⟨w1.heap.size,1,none⟩ la:=bE.fresh (γ:=γ) (w:=w1) (cs:=#[ua,la]) (t:=91) rfl rfl
 refine pF C hp (ob := ?ob2) rfl (by rfl) (fun w=>run_eq_of fun K hK => ?r2) (fun w => ?e2) ?h2
 case r2=>go_simp; exact hK
 case e2=>simp[go_sem]
 intro w2 O4
 try walk_nrm
 have GW:=(Kept.rely O4).trans (Kept.alloc _ w2 w2.heap.size (.cells #[ub,lb] 91))
 have Lh:=rT.trans GW
 have Lr:=GW.sees Uv
 have DI:=GW.sees Lp
 have x5:bE _ _ ⟨w2.heap.size,0,none⟩ ub:=bE.fresh (γ:=γ.more w1.heap.size) (w:=w2) (cs:=#[ub,lb]) (t:=91) rfl rfl
 have hd2:bE _ _ ⟨w2.heap.size,1,none⟩ lb:=bE.fresh (γ:=γ.more w1.heap.size) (w:=w2) (cs:=#[ub,lb]) (t:=91) rfl rfl
 have tB:=Lh.EU hl
 have hu2:=Lh.EU hu
 refine av C ?_
 try walk_nrm
 refine aT C ?_
 co_then
 clear hl hu rT GW Uv Lp O4 Pw
 generalize (γ.more w1.heap.size).more w2.heap.size=γ2 at *
 generalize w2.alloc (.cells #[ub,lb] 91)=W at *
 generalize w2.heap.size=bB at *
 generalize w1.heap.size=bA at *
 refine aY C (cr C ?_)
 refine av C ?_
 try walk_nrm
 refine aT C ?_
 co_then
 obtain⟨A,ca,rfl,hA⟩:=tB
 obtain⟨B,cb,rfl,hB⟩:=hu2
 have hwa:IntKind.i64.wrap (0-(up.length:Int)) = -(up.length:Int):=by rw[vn]<;>omega
 have hwb:IntKind.i64.wrap (-(up.length:Int)) = -(up.length:Int):=by rw[vn]<;>omega
 refine aY C (aY C (cr C ?_))
 refine av C ?_
 try walk_nrm
 refine jj C hp x5 ?_
 try walk_nrm
 refine av C ?_
 try walk_nrm
 refine dQ C (v := ?v8) rfl (by rfl) (fun w=>run_eq_of fun K hK => ?r8) (fun w => ?e8) ?h8
 case r8=>go_simp; exact hK
 case e8=>simp[go_sem,Op.unary]
 try walk_nrm
 refine av C ?_
 try walk_nrm
 refine aT C ?_
 co_then
 refine gH C ?_
 clear hwa hwb
 refine oy C (fun n γ' a w'=>∃ γ3,γ'=(p,γ3)∧Kept γ2 W γ3 w'∧∃ k out,k≤up.length+low.length+1∧n=up.length+low.length+1-k∧kQ γ3 w' W.heap.size 3 1 out (O3 low up cD k).length (XE (O3 low up cD k))∧∃ u,a=acz ua lb A B ca cb low up cD bA bB out ((k:Int)-up.length) u) (n:=up.length+low.length+1) ⟨γ2,rfl,Kept.refl _ _,0,.slice none 0 0,by omega,by omega,kQ.nil _ _ _,oG (by
  have:((0:Nat):Int)-(up.length:Int) = -(up.length:Int):=by omega
  rw[this]
  rfl)⟩ ?_
 rintro n γ' a w' ⟨γ3,hγ,y6,k,out,hk,hn,fD,u,ha⟩
 subst hγ
 unfold acz at ha
 subst ha
 have Bu:W.heap.size≤w'.heap.size:=y6.size
 have hb3:=y6.sees DI
 have ha3:=y6.sees Lr
 have UX:=y6.sees x5
 have hd3:=y6.sees hd2
 refine aY C (aY C (cr C ?_))
 by_cases hlt:k<up.length+low.length+1
 ·have ach:decide ((k:Int)-(up.length:Int)≤(low.length:Int))=true:=by simp; omega
  refine av C ?_
  try walk_nrm
  refine av C ?_
  try walk_nrm
  refine jj C hp hb3 ?_
  try walk_nrm
  refine av C ?_
  try walk_nrm
  refine av C ?_
  try walk_nrm
  refine aT C ?_
  co_then
  refine dx C (t:=true) rfl ?_
  simp only[if_true]
  refine ki C ?_
  co_then
  refine aY C (gH C (aY C (cr C ?_)))
  refine pE C hp (v := ?v15) rfl (by rfl) (fun w₁ h₁=>⟨run_eq_of fun K hK => ?r15,?e15⟩) ?Zg
  case r15=>have hc:=(bE.rely ha3 h₁).2; have hd:=(bE.rely hb3 h₁).2; go_simp; exact hK
  case e15 =>
   have hc:=(bE.rely ha3 h₁).2
   have hd:=(bE.rely hb3 h₁).2
   intro e he
   simp[go_sem,hc,hd] at he
   rcases he with rfl | rfl
   ·exact(bE.rely ha3 h₁).GD
   ·exact(bE.rely hb3 h₁).GD
  try walk_nrm
  refine pE C hp (v := ?v16) rfl (by rfl) (fun w₁ h₁=>⟨run_eq_of fun K hK => ?r16,?e16⟩) ?h16
  case r16=>have hc:=(bE.rely UX h₁).2; have hd:=(bE.rely hd3 h₁).2; go_simp; exact hK
  case e16 =>
   have hc:=(bE.rely UX h₁).2
   have hd:=(bE.rely hd3 h₁).2
   intro e he
   simp[go_sem,hc,hd] at he
   rcases he with rfl | rfl
   ·exact(bE.rely UX h₁).GD
   ·exact(bE.rely hd3 h₁).GD
  try walk_nrm
  refine av C ?_
  try walk_nrm
  refine MK C rfl (by rfl) rfl (Post:=fun γ' v Pu=>γ'.1=p∧v=Tri (uQ low up ((k:Int)-up.length))∧Kept γ3 w' γ'.2 Pu) ?_ ?_
  ·simp only[List.map_toArray,bQ,fK]
   exact aaJ C hp ((k:Int)-up.length) ⟨A,ca,rfl,fun i x hx=>by obtain⟨ad,h1,h2⟩:=hA i x hx; exact⟨ad,h1,y6.sees h2⟩⟩ ⟨B,cb,rfl,fun i x hx=>by obtain⟨ad,h1,h2⟩:=hB i x hx; exact⟨ad,h1,y6.sees h2⟩⟩ Pe Uo
  rintro⟨p',γ4⟩ v4 w4 ⟨hp4,hv4,Uu⟩
  simp only at hp4 Uu
  subst p'
  have ZO:=Mb low up ((k:Int)-up.length) up.length
  have hbd:=aaN Pe Uo ((k:Int)-up.length) up.length
  have uE:=SA low up cD k
  have hlen:=FQ low up cD k
  have hfb:Qb low up cD ((k:Int)-up.length)=(decide (3≤(A1 low up ((k:Int)-up.length) up.length).2.2)&&decide ((A1 low up ((k:Int)-up.length) up.length).2.1-(A1 low up ((k:Int)-up.length) up.length).1≤cD)):=rfl
  unfold uQ Tri at hv4
  generalize A1 low up ((k:Int)-up.length) up.length=st at *
  obtain⟨r1,r2,r3⟩:=st
  simp only at hv4 ZO hbd hfb
  subst hv4
  have hw4:IntKind.i64.wrap (r2-r1)=r2-r1:=by rw[vn]<;>omega
  have hw5:IntKind.i64.wrap ((k:Int)-(up.length:Int)+1)=(k:Int)-(up.length:Int)+1:=by rw[vn]<;>omega
  have QI:((k+1:Nat):Int)-(up.length:Int)=(k:Int)-(up.length:Int)+1:=by omega
  have Lg:=y6.trans Uu
  have D2:=fD.kept Uu
  have abq:W.heap.size≤w4.heap.size:=aS Bu Uu.size
  try walk_nrm
  clear hb3 ha3 UX hd3 ach Uu fD y6 Bu
  refine av C ?_
  try walk_nrm
  refine av C ?_
  try walk_nrm
  refine av C ?_
  try walk_nrm
  refine av C ?_
  try walk_nrm
  refine av C ?_
  try walk_nrm
  refine av C ?_
  try walk_nrm
  refine av C ?_
  try walk_nrm
  refine aT C ?_
  co_then
  refine aY C (cr C ?_)
  by_cases c1:3≤r3
  ·have UW:decide (3≤r3)=true:=by simpa using c1
   by_cases c2:r2-r1≤cD
   ·have hd5:decide (r2-r1≤cD)=true:=by simpa using c2
    refine av C ?_
    try walk_nrm
    refine av C ?_
    try walk_nrm
    refine av C ?_
    try walk_nrm
    refine av C ?_
    try walk_nrm
    refine av C ?_
    try walk_nrm
    refine av C ?_
    try walk_nrm
    refine av C ?_
    try walk_nrm
    refine av C ?_
    try walk_nrm
    refine av C ?_
    try walk_nrm
    refine aT C ?_
    co_then
    refine dx C (t:=true) rfl ?_
    simp only[if_true]
    refine cr C ?_
    refine av C ?_
    try walk_nrm
    refine av C ?_
    try walk_nrm
    refine Ru C hp (ob := ?afC) (n:=1) rfl (by rfl) (fun w=>run_eq_of fun K hK => ?r36) (fun w => ?e36) ?h36
    case r36=>go_simp; exact hK
    case e36=>simp[go_sem]
    intro w5 UJ
    try walk_nrm
    have XL:=(Kept.rely UJ).trans (Kept.alloc γ4 w5 w5.heap.size (.cells #[.int .i64 ((k:Int)-up.length)] 3))
    have hs6:bE _ _ ⟨w5.heap.size,0,none⟩ (.int .i64 ((k:Int)-up.length)):=bE.fresh (γ:=γ4) (w:=w5) (cs:=#[.int .i64 ((k:Int)-up.length)]) (t:=3) rfl rfl
    have Yu:=D2.kept XL
    have Ut:=Lg.trans XL
    have hB6:W.heap.size≤(w5.alloc (.cells #[.int .i64 ((k:Int)-up.length)] 3)).heap.size:=aS abq XL.size
    generalize w5.alloc (.cells #[.int .i64 ((k:Int)-up.length)] 3)=w6 at *
    generalize γ4.more w5.heap.size=γ6 at *
    generalize w5.heap.size=b6 at *
    refine Ex C hp (B:=W.heap.size) (news:=[.int .i64 ((k:Int)-up.length)]) (m:=1) (c:=1) (ad:=⟨b6,0,none⟩) (n:=(O3 low up cD k).length) (xs:=XE (O3 low up cD k)) (v:=out) rfl (by rfl) rfl Tryz.underlying23 hi GK O9 hz2 rfl (by decide) rfl rfl hB6 Yu rfl (fun j u hu => ?_) hs6.1 (by simp[Value.oneCell']) (by simp only[maxLen]; omega) (by omega) ?_
    ·cases j with
     | zero=>simp at hu; subst hu; exact hs6
     | succ j=>simp at hu
    intro v7 w7 γ7 hg1 UT hg3 hg4 hg5 D1
    have hk8:=Ut.append hg1 UT hg3 hg4 hg5 (v:=out) (fun b hb=>(Yu.1.lt b hb).1)
    try walk_nrm
    refine av C ?_
    try walk_nrm
    refine aT C ?_
    co_then
    refine cr C ?_
    refine av C ?_
    try walk_nrm
    refine av C ?_
    try walk_nrm
    refine av C ?_
    try walk_nrm
    refine aT C (eB ?_)
    refine⟨up.length+low.length+1-(k+1),by omega,γ7,rfl,hk8,k+1,v7,by omega,rfl,(by rw[uE,hfb,UW,hd5]; simpa using D1),oG ?_⟩
    rw[QI]
    rfl
   ·have hd5:decide (r2-r1≤cD)=false:=by simpa using c2
    refine av C ?_
    try walk_nrm
    refine av C ?_
    try walk_nrm
    refine av C ?_
    try walk_nrm
    refine av C ?_
    try walk_nrm
    refine av C ?_
    try walk_nrm
    refine av C ?_
    try walk_nrm
    refine av C ?_
    try walk_nrm
    refine av C ?_
    try walk_nrm
    refine av C ?_
    try walk_nrm
    refine aT C ?_
    co_then
    refine dx C (t:=false) rfl ?_
    simp only[aF,if_false]
    refine ki C ?_
    co_then
    refine cr C ?_
    refine av C ?_
    try walk_nrm
    refine av C ?_
    try walk_nrm
    refine av C ?_
    try walk_nrm
    refine aT C (eB ?_)
    refine⟨up.length+low.length+1-(k+1),by omega,γ4,rfl,Lg,k+1,out,by omega,rfl,(by rw[uE,hfb,UW,hd5]; simpa using D2),oG ?_⟩
    rw[QI]
    rfl
  ·have UW:decide (3≤r3)=false:=by simpa using c1
   refine av C ?_
   try walk_nrm
   refine av C ?_
   try walk_nrm
   refine av C ?_
   try walk_nrm
   refine cW C rfl (by rfl) ?_
   try walk_nrm
   refine cW C rfl (by rfl) ?_
   try walk_nrm
   refine cW C rfl (by rfl) ?_
   try walk_nrm
   refine cW C rfl (by rfl) ?_
   try walk_nrm
   refine cW C rfl (by rfl) ?_
   try walk_nrm
   refine av C ?_
   try walk_nrm
   refine aT C ?_
   co_then
   refine dx C (t:=false) rfl ?_
   simp only[aF,if_false]
   refine ki C ?_
   co_then
   refine cr C ?_
   refine av C ?_
   try walk_nrm
   refine av C ?_
   try walk_nrm
   refine av C ?_
   try walk_nrm
   refine aT C (eB ?_)
   refine⟨up.length+low.length+1-(k+1),by omega,γ4,rfl,Lg,k+1,out,by omega,rfl,(by rw[uE,hfb,UW]; simpa using D2),oG ?_⟩
   rw[QI]
   rfl
 ·have Lf:k=up.length+low.length+1:=by omega
  subst Lf
  have ach:decide (((up.length+low.length+1:Nat):Int)-(up.length:Int)≤(low.length:Int))=false:=by simp; omega
  generalize hsv:((up.length+low.length+1:Nat):Int)-(up.length:Int)=sv at *
  refine av C ?_
  try walk_nrm
  refine av C ?_
  try walk_nrm
  refine jj C hp hb3 ?_
  try walk_nrm
  refine av C ?_
  try walk_nrm
  refine av C ?_
  try walk_nrm
  refine aT C ?_
  co_then
  refine dx C (t:=false) rfl ?_
  simp only[aF,if_false]
  refine nD C ?_
  co_then
  refine aY C (cr C ?_)
  refine av C ?_
  try walk_nrm
  refine av C ?_
  try walk_nrm
  refine aT C ?_
  co_then
  refine BG C ?_
  have rP:kQ γ3 w' w.heap.size 3 1 out (ny low up cD).length (XE (ny low up cD)):=fD.more Lh.size
  exact⟨rfl,out,resultsC_tmp Tryz.results103 _,rfl,rP,Lh.trans y6⟩
end Go.Co
end
section
namespace Go.Co
open Go Go.Conc Go.Proofs
open Go.ConcN (upd upd_same upd_ne)
variable {af:Machine→Trace→Prop} {main:Bool} {K:Gm→Goroutine→World→Prop} {p:Pc} {γ:So} {w:World}
structure Wk where
 bp:List Int
 cD:Int
 up:Nat→List Int
 lo:Nat→List Int
structure Wk.ok (d:Wk):Prop where
 few:d.bp.length≤1000
 bp:∀ (i:Nat) (x:Int),d.bp[i]? = some x→0≤x∧x≤3
 cD:0≤d.cD∧d.cD≤1000
 up:∀ i,UB (d.up i)
 lo:∀ i,UB (d.lo i)
structure gp (γ:So) (w:World) (b:Nat) (d:Wk):Prop where
 cD:bE γ w ⟨b,2,none⟩ (.int .i64 d.cD)
 bp:∃ v,bE γ w ⟨b,3,none⟩ v∧xZ γ w v d.bp
 up:∀ i,i<4→∃ v,bE γ w ⟨b,4+i*2,none⟩ v∧xZ γ w v (d.up i)
 lo:∀ i,i<4→∃ v,bE γ w ⟨b,4+i*2+1,none⟩ v∧xZ γ w v (d.lo i)
theorem gp.kept {b:Nat} {d:Wk} {γ':So} {w':World} (h:gp γ w b d) (k:Kept γ w γ' w'):gp γ' w' b d :=
 ⟨k.sees h.cD,h.bp.imp fun _ ⟨h1,h2⟩=>⟨k.sees h1,k.EU h2⟩,fun i hi=>(h.up i hi).imp fun _ ⟨h1,h2⟩=>⟨k.sees h1,k.EU h2⟩,fun i hi=>(h.lo i hi).imp fun _ ⟨h1,h2⟩=>⟨k.sees h1,k.EU h2⟩⟩
def za (x y s:Int):Value := .agg #[.int .i64 x,.int .i64 y,.int .i64 s]
def gr (a b:Wk) (x y:Int):List Int:=ny (a.lo x.toNat) (b.up y.toNat) (a.cD+b.cD)
def msgs (a b:Wk) (x:Int) (ys:List Int):List Value:=ys.flatMap fun y=>(gr a b x y).map fun s=>za x y s
theorem Lu {cf cl:Nat} {tv:Value} (vs:List Value):wk cf cl tv vs ≠ .ret∧wk cf cl tv vs ≠ .stop:=by cases vs<;>simp[wk]
theorem Xu (T:Array Value) (h:T.size=46):∃ v0 v1 v2 v3 v4 v5 v6 v7 v8 v9 v10 v11 v12 v13 v14 v15 v16 v17 v18 v19 v20 v21 v22 v23 v24 v25 v26 v27 v28 v29 v30 v31 v32 v33 v34 v35 v36 v37 v38 v39 v40 v41 v42 v43 v44 v45:Value,T=#[v0,v1,v2,v3,v4,v5,v6,v7,v8,v9,v10,v11,v12,v13,v14,v15,v16,v17,v18,v19,v20,v21,v22,v23,v24,v25,v26,v27,v28,v29,v30,v31,v32,v33,v34,v35,v36,v37,v38,v39,v40,v41,v42,v43,v44,v45]:=by
 obtain⟨l⟩:=T
 simp only[lg] at h
 rcases l with _ | ⟨v0,l⟩
 ·simp at h
 rcases l with _ | ⟨v1,l⟩
 ·simp at h
 rcases l with _ | ⟨v2,l⟩
 ·simp at h
 rcases l with _ | ⟨v3,l⟩
 ·simp at h
 rcases l with _ | ⟨v4,l⟩
 ·simp at h
 rcases l with _ | ⟨v5,l⟩
 ·simp at h
 rcases l with _ | ⟨v6,l⟩
 ·simp at h
 rcases l with _ | ⟨v7,l⟩
 ·simp at h
 rcases l with _ | ⟨v8,l⟩
 ·simp at h
 rcases l with _ | ⟨v9,l⟩
 ·simp at h
 rcases l with _ | ⟨v10,l⟩
 ·simp at h
 rcases l with _ | ⟨v11,l⟩
 ·simp at h
 rcases l with _ | ⟨v12,l⟩
 ·simp at h
 rcases l with _ | ⟨v13,l⟩
 ·simp at h
 rcases l with _ | ⟨v14,l⟩
 ·simp at h
 rcases l with _ | ⟨v15,l⟩
 ·simp at h
 rcases l with _ | ⟨v16,l⟩
 ·simp at h
 rcases l with _ | ⟨v17,l⟩
 ·simp at h
 rcases l with _ | ⟨v18,l⟩
 ·simp at h
 rcases l with _ | ⟨v19,l⟩
 ·simp at h
 rcases l with _ | ⟨v20,l⟩
 ·simp at h
 rcases l with _ | ⟨v21,l⟩
 ·simp at h
 rcases l with _ | ⟨v22,l⟩
 ·simp at h
 rcases l with _ | ⟨v23,l⟩
 ·simp at h
 rcases l with _ | ⟨v24,l⟩
 ·simp at h
 rcases l with _ | ⟨v25,l⟩
 ·simp at h
 rcases l with _ | ⟨v26,l⟩
 ·simp at h
 rcases l with _ | ⟨v27,l⟩
 ·simp at h
 rcases l with _ | ⟨v28,l⟩
 ·simp at h
 rcases l with _ | ⟨v29,l⟩
 ·simp at h
 rcases l with _ | ⟨v30,l⟩
 ·simp at h
 rcases l with _ | ⟨v31,l⟩
 ·simp at h
 rcases l with _ | ⟨v32,l⟩
 ·simp at h
 rcases l with _ | ⟨v33,l⟩
 ·simp at h
 rcases l with _ | ⟨v34,l⟩
 ·simp at h
 rcases l with _ | ⟨v35,l⟩
 ·simp at h
 rcases l with _ | ⟨v36,l⟩
 ·simp at h
 rcases l with _ | ⟨v37,l⟩
 ·simp at h
 rcases l with _ | ⟨v38,l⟩
 ·simp at h
 rcases l with _ | ⟨v39,l⟩
 ·simp at h
 rcases l with _ | ⟨v40,l⟩
 ·simp at h
 rcases l with _ | ⟨v41,l⟩
 ·simp at h
 rcases l with _ | ⟨v42,l⟩
 ·simp at h
 rcases l with _ | ⟨v43,l⟩
 ·simp at h
 rcases l with _ | ⟨v44,l⟩
 ·simp at h
 rcases l with _ | ⟨v45,l⟩
 ·simp at h
 rcases l with _ | ⟨x,l⟩
 ·exact⟨v0,v1,v2,v3,v4,v5,v6,v7,v8,v9,v10,v11,v12,v13,v14,v15,v16,v17,v18,v19,v20,v21,v22,v23,v24,v25,v26,v27,v28,v29,v30,v31,v32,v33,v34,v35,v36,v37,v38,v39,v40,v41,v42,v43,v44,v45,rfl⟩
 ·simp at h
def rY (ba bb:Nat) (x y:Int) (ua la ub lb:Value) (wa wb:Int) (m:Nat) (v:Value):Nat→Value
 | 0 => .int .i64 x
 | 1 => .pointer (some ⟨ba,4,none⟩)
 | 2 => .pointer (some ⟨ba,4+x.toNat*2,none⟩)
 | 3 => .agg #[ua,la]
 | 4 => .int .i64 y
 | 5 => .pointer (some ⟨bb,4,none⟩)
 | 6 => .pointer (some ⟨bb,4+y.toNat*2,none⟩)
 | 7 => .agg #[ub,lb]
 | 8 => .pointer (some ⟨ba,0,none⟩)
 | 9 => .pointer (some ⟨ba,2,none⟩)
 | 10 => .int .i64 wa
 | 11 => .pointer (some ⟨bb,0,none⟩)
 | 12 => .pointer (some ⟨bb,2,none⟩)
 | 13 => .int .i64 wb
 | 14 => .int .i64 (wa+wb)
 | 15=>v
 | 16 => .int .i64 m
 | 17 => .int .i64 0
 | _=>undef
structure U4 (F:Value→Nat→Value) (a0:Act) (v:Value) (L:Nat→Bool) (a:Act):Prop where
 defers:a.defers=[]
 size:a.tmps.size=46
 vals:∀ i,i<18→L i=true→a.tmps[17+i]? = some (F v i)
 old:∀ s,s<17→a.tmps[s]? = a0.tmps[s]?
 len:L 16=true→L 15=true
theorem U4.put {F:Value→Nat→Value} {a0 a:Act} {v:Value} {L:Nat→Bool} (h:U4 F a0 v L a) {i:Nat} (hi:i<18) (h16:i=16→L 15=true) {u:Value} (hu:u=F v i):U4 F a0 v (upd L i true) (a.put (some (17+i)) u):=by
 subst hu
 refine⟨h.defers,by simp[Act.put,h.size],fun j hj hL => ?_,fun s hs => ?_,fun hL => ?_⟩
 ·by_cases gO:j=i
  ·subst gO
   simp only[Act.put]
   rw[ko (by rw[h.size]; omega)]
  ·rw[upd_ne _ _ gO] at hL
   simp only[Act.put]
   rw[eG (by omega)]
   exact h.vals j hj hL
 ·simp only[Act.put]
  rw[eG (by omega)]
  exact h.old s hs
 ·by_cases h1:i=16
  ·rw[upd_ne _ _ (by omega)]; exact h16 h1
  ·rw[upd_ne _ _ (by omega)] at hL
   by_cases h2:15=i
   ·rw[h2,upd_same]
   ·rw[upd_ne _ _ h2]; exact h.len hL
theorem U4.val {F:Value→Nat→Value} {a0 a:Act} {v v':Value} {L:Nat→Bool} (h:U4 F a0 v L a) (Zg:L 15=false) (hF:∀ i,i≠15→F v i=F v' i):U4 F a0 v' L a :=
 ⟨h.defers,h.size,fun i hi hL=>by
  have h1:i≠15:=fun e=>by rw[e,Zg] at hL; cases hL
  rw[← hF i h1]; exact h.vals i hi hL,h.old,h.len⟩
theorem U4.slot {F:Value→Nat→Value} {a0 a:Act} {v:Value} {L:Nat→Bool} (h:U4 F a0 v L a) {i:Nat} (hi:i<18) (hL:L i=true):a.eval (.tmp (17+i))=F v i:=by
 simp[Act.eval,h.vals i hi hL]
def YJ (bb ba bx bf bl:Nat) (vl:Value) (nl k:Nat) (u:Nat→Value):Act :=
 ⟨#[.pointer (some ⟨bb,0,none⟩),.pointer (some ⟨ba,0,none⟩),.pointer (some ⟨bx,0,none⟩),.pointer (some ⟨bf,0,none⟩),.pointer (some ⟨bl,0,none⟩),u 5,u 6,u 7,u 8,u 9,u 10,vl,.int .i64 nl,.int .i64 k,u 14,u 15,u 16,u 17,u 18,u 19,u 20,u 21,u 22,u 23,u 24,u 25,u 26,u 27,u 28,u 29,u 30,u 31,u 32,u 33,u 34,u 35,u 36,u 37,u 38,u 39,u 40,u 41,u 42,u 43,u 44,u 45],[]⟩
def QK (bb ba bx bf bl:Nat) (vl:Value) (nl k:Nat) (y:Int) (v:Value) (m j:Nat) (u:Nat→Value):Act :=
 ⟨#[.pointer (some ⟨bb,0,none⟩),.pointer (some ⟨ba,0,none⟩),.pointer (some ⟨bx,0,none⟩),.pointer (some ⟨bf,0,none⟩),.pointer (some ⟨bl,0,none⟩),u 5,.int .i64 y,u 7,u 8,u 9,u 10,vl,.int .i64 nl,.int .i64 k,u 14,u 15,u 16,u 17,u 18,u 19,u 20,u 21,u 22,u 23,u 24,u 25,u 26,u 27,u 28,u 29,u 30,u 31,v,.int .i64 m,.int .i64 j,u 35,u 36,u 37,u 38,u 39,u 40,u 41,u 42,u 43,u 44,u 45],[]⟩
end Go.Co
end
section
namespace Go.Co
open Go Go.Conc Go.Proofs
open Go.ConcN (upd upd_same upd_ne)
variable {af:Machine→Trace→Prop} {main:Bool} {K:Gm→Goroutine→World→Prop} {p:Pc} {γ:So} {w:World}
theorem events_indexAt_array {P:Program} {w:World} {es:Array Event} {t e:TypeId} {n:Nat} (h:P.underlying t=some (.array n e)) (a:Addr) (k:IntKind) (i:Int) (hi:0≤i∧i<n) :
  (Instr.indexAt t (.pointer (some a)) (.int k i)).events P w es=es:=by
 simp only[Instr.indexAt,asIntOf,Instr.sureAddr,Sem.events_bind,Sem.run_pure,Sem.events_pure,Result.evThen_ok,run_underlying h,events_underlying,hi,and_self,if_true,events_sizeOf]
 cases (sizeOf e).run P w<;>rfl
noncomputable def adU:Code:=match Tryz.f102.body with
 | some (.seq (.seq _ (.block _ (.loop (.seq _ (.seq _ (.seq (.block _ (.seq _ (.seq r _))) _)))))) _)=>r
 | _ => .skip
set_option maxRecDepth 100000 in
set_option maxHeartbeats 2000000 in
theorem Wu (C:KC Tryz.prog main K Az E1) (hp:p ≠ .ret) {bb ba bx:Nat} {da db:Wk} {x y:Int} (ha:gp γ w ba da) (hb:gp γ w bb db) (hx:bE γ w ⟨bx,0,none⟩ (.int .i64 x)) (GM:0≤x) (XH:x<4) (hy0:0≤y) (hy3:y<4) (uv:da.ok) (y7:db.ok)
  {a0:Act} (Jy:a0.defers=[]) (hsz:a0.tmps.size=46) (t0:a0.tmps[0]? = some (.pointer (some ⟨bb,0,none⟩))) (t1:a0.tmps[1]? = some (.pointer (some ⟨ba,0,none⟩))) (t2:a0.tmps[2]? = some (.pointer (some ⟨bx,0,none⟩))) (t6:a0.tmps[6]? = some (.int .i64 y))
  {Q:Gm→Exit→Act→World→Prop} (hQ:∀ v γ' a' w',a'.defers=[]→a'.tmps.size=46→(∀ s,s<17→a'.tmps[s]? = a0.tmps[s]?)→a'.tmps[32]? = some v→a'.tmps[33]? = some (.int .i64 (gr da db x y).length)→a'.tmps[34]? = some (.int .i64 0) →
   kQ γ' w' w.heap.size 3 1 v (gr da db x y).length (XE (gr da db x y))→Kept γ w γ' w'→Q (p,γ') .normal a' w'):KJ K 102 (p,γ) adU Q a0 w:=by
 obtain⟨la,hla,Pe⟩:=ha.lo x.toNat (by omega)
 obtain⟨ua,hua,-⟩:=ha.up x.toNat (by omega)
 obtain⟨ub,hub,Uo⟩:=hb.up y.toNat (by omega)
 obtain⟨lb,Y7,-⟩:=hb.lo y.toNat (by omega)
 have hwa:=uv.cD
 have hwb:=y7.cD
 have Le:IntKind.i64.wrap (da.cD+db.cD)=da.cD+db.cD:=by rw[vn]<;>omega
 refine W0 C hp mixed (fun L γ' a' w'=>Kept γ w γ' w'∧∃ v,(L 15=true→kQ γ' w' w.heap.size 3 1 v (gr da db x y).length (XE (gr da db x y)))∧U4 (fun v=>rY ba bb x y ua la ub lb da.cD db.cD (gr da db x y).length v) a0 v L a')
  (by kernel_rfl) (fun w₁ r => ?_) ?_ (fun L γ' a' w' hJ fA => ?_)
 ·exact⟨(Kept.rely r).trans (Kept.rely (yh γ w₁ _)),undef,fun h=>(nomatch h),Jy,hsz,fun i _ h=>(nomatch h),fun _ _=>rfl,fun h=>(nomatch h)⟩
 ·rintro L γ' a' w' i o ⟨hk,v,hv,hs⟩ ho hL uG rest eP
  have hi:i<18:=(aR.1 ho).1
  have hv':∀ j,j≠15→upd L j true 15=true→kQ γ' w' w.heap.size 3 1 v (gr da db x y).length (XE (gr da db x y)):=fun j hj h=>hv (by rwa [upd_ne _ _ (Ne.symm hj)] at h)
  rcases i with _ | _ | _ | _ | _ | _ | _ | _ | _ | _ | _ | _ | _ | _ | _ | _ | _ | _ | i
  all_goals first | (exfalso; omega) | skip
  ·have lP:=cA ho
   subst lP
   have f2:a'.tmps[2]? = some _:=(hs.old 2 (by omega)).trans t2
   refine pE C hp (v := ?v0) ho (by rfl) (fun w₁ h₁=>⟨run_eq_of fun K hK => ?r0,?e0⟩) ?h0
   case r0=>have hc:=((hk.sees hx).rely h₁).2; go_simp; exact hK
   case e0=>have hc:=((hk.sees hx).rely h₁).2; intro e he; simp[go_sem, *] at he; subst he; exact((hk.sees hx).rely h₁).GD
   exact eP _ _ _ ⟨hk,v,hv' 0 (by omega),hs.put (i:=0) (by omega) (fun h=>by omega) rfl⟩
  ·have lP:=cA ho
   subst lP
   have f1:a'.tmps[1]? = some _:=(hs.old 1 (by omega)).trans t1
   refine dQ C (v := ?v1) ho (by rfl) (fun w=>run_eq_of fun K hK => ?r1) (fun w => ?e1) ?h1
   case r1=>go_simp; exact hK
   case e1=>simp[go_sem, *]
   exact eP _ _ _ ⟨hk,v,hv' 1 (by omega),hs.put (i:=1) (by omega) (fun h=>by omega) rfl⟩
  ·have lP:=cA ho
   subst lP
   have d1:L 1=true:=uG { on:=1,ground:=Ground.data } (by simp) rfl
   have e1:a'.tmps[18]? = some _:=hs.vals 1 (by omega) d1
   simp only[rY] at e1
   have d0:L 0=true:=uG { on:=0,ground:=Ground.data } (by simp) rfl
   have e0:a'.tmps[17]? = some _:=hs.vals 0 (by omega) d0
   simp only[rY] at e0
   refine dQ C (v := ?v2) ho (by rfl) (fun w=>run_eq_of fun K hK => ?r2) (fun w => ?e2) ?h2
   case r2=>have Lp:x.toNat<4:=(by omega); go_simp; exact hK
   case e2=>simp[go_sem,e1,e0,events_indexAt_array Tryz.underlying92 _ _ x ⟨(by omega),(by omega)⟩]
   exact eP _ _ _ ⟨hk,v,hv' 2 (by omega),hs.put (i:=2) (by omega) (fun h=>by omega) rfl⟩
  ·have lP:=cA ho
   subst lP
   have d2:L 2=true:=uG { on:=2,ground:=Ground.data } (by simp) rfl
   have e2:a'.tmps[19]? = some _:=hs.vals 2 (by omega) d2
   simp only[rY] at e2
   refine pE C hp (v := ?v3) ho (by rfl) (fun w₁ h₁=>⟨run_eq_of fun K hK => ?r3,?e3⟩) ?h3
   case r3=>have hc:=((hk.sees hua).rely h₁).2; have hd:=((hk.sees hla).rely h₁).2; go_simp; exact hK
   case e3 =>
    have hc:=((hk.sees hua).rely h₁).2
    have hd:=((hk.sees hla).rely h₁).2
    intro e he
    simp[go_sem, *] at he
    rcases he with rfl | rfl
    ·exact((hk.sees hua).rely h₁).GD
    ·exact((hk.sees hla).rely h₁).GD
   exact eP _ _ _ ⟨hk,v,hv' 3 (by omega),hs.put (i:=3) (by omega) (fun h=>by omega) rfl⟩
  ·have lP:=cA ho
   subst lP
   have f6:a'.tmps[6]? = some _:=(hs.old 6 (by omega)).trans t6
   refine dQ C (v := ?v4) ho (by rfl) (fun w=>run_eq_of fun K hK => ?r4) (fun w => ?e4) ?h4
   case r4=>go_simp; exact hK
   case e4=>simp[go_sem, *]
   exact eP _ _ _ ⟨hk,v,hv' 4 (by omega),hs.put (i:=4) (by omega) (fun h=>by omega) rfl⟩
  ·have lP:=cA ho
   subst lP
   have f0:a'.tmps[0]? = some _:=(hs.old 0 (by omega)).trans t0
   refine dQ C (v := ?v5) ho (by rfl) (fun w=>run_eq_of fun K hK => ?r5) (fun w => ?e5) ?h5
   case r5=>go_simp; exact hK
   case e5=>simp[go_sem, *]
   exact eP _ _ _ ⟨hk,v,hv' 5 (by omega),hs.put (i:=5) (by omega) (fun h=>by omega) rfl⟩
  ·have lP:=cA ho
   subst lP
   have d5:L 5=true:=uG { on:=5,ground:=Ground.data } (by simp) rfl
   have e5:a'.tmps[22]? = some _:=hs.vals 5 (by omega) d5
   simp only[rY] at e5
   have d4:L 4=true:=uG { on:=4,ground:=Ground.data } (by simp) rfl
   have e4:a'.tmps[21]? = some _:=hs.vals 4 (by omega) d4
   simp only[rY] at e4
   refine dQ C (v := ?v6) ho (by rfl) (fun w=>run_eq_of fun K hK => ?r6) (fun w => ?e6) ?h6
   case r6=>have Lp:y.toNat<4:=(by omega); go_simp; exact hK
   case e6=>simp[go_sem,e5,e4,events_indexAt_array Tryz.underlying92 _ _ y ⟨(by omega),(by omega)⟩]
   exact eP _ _ _ ⟨hk,v,hv' 6 (by omega),hs.put (i:=6) (by omega) (fun h=>by omega) rfl⟩
  ·have lP:=cA ho
   subst lP
   have d6:L 6=true:=uG { on:=6,ground:=Ground.data } (by simp) rfl
   have e6:a'.tmps[23]? = some _:=hs.vals 6 (by omega) d6
   simp only[rY] at e6
   refine pE C hp (v := ?v7) ho (by rfl) (fun w₁ h₁=>⟨run_eq_of fun K hK => ?r7,?e7⟩) ?h7
   case r7=>have hc:=((hk.sees hub).rely h₁).2; have hd:=((hk.sees Y7).rely h₁).2; go_simp; exact hK
   case e7 =>
    have hc:=((hk.sees hub).rely h₁).2
    have hd:=((hk.sees Y7).rely h₁).2
    intro e he
    simp[go_sem, *] at he
    rcases he with rfl | rfl
    ·exact((hk.sees hub).rely h₁).GD
    ·exact((hk.sees Y7).rely h₁).GD
   exact eP _ _ _ ⟨hk,v,hv' 7 (by omega),hs.put (i:=7) (by omega) (fun h=>by omega) rfl⟩
  ·have lP:=cA ho
   subst lP
   have f1:a'.tmps[1]? = some _:=(hs.old 1 (by omega)).trans t1
   refine dQ C (v := ?v8) ho (by rfl) (fun w=>run_eq_of fun K hK => ?r8) (fun w => ?e8) ?h8
   case r8=>go_simp; exact hK
   case e8=>simp[go_sem, *]
   exact eP _ _ _ ⟨hk,v,hv' 8 (by omega),hs.put (i:=8) (by omega) (fun h=>by omega) rfl⟩
  ·have lP:=cA ho
   subst lP
   have d8:L 8=true:=uG { on:=8,ground:=Ground.data } (by simp) rfl
   have e8:a'.tmps[25]? = some _:=hs.vals 8 (by omega) d8
   simp only[rY] at e8
   refine dQ C (v := ?v9) ho (by rfl) (fun w=>run_eq_of fun K hK => ?r9) (fun w => ?e9) ?h9
   case r9=>go_simp; exact hK
   case e9=>simp[go_sem, *]
   exact eP _ _ _ ⟨hk,v,hv' 9 (by omega),hs.put (i:=9) (by omega) (fun h=>by omega) rfl⟩
  ·have lP:=cA ho
   subst lP
   have d9:L 9=true:=uG { on:=9,ground:=Ground.data } (by simp) rfl
   have e9:a'.tmps[26]? = some _:=hs.vals 9 (by omega) d9
   simp only[rY] at e9
   refine pE C hp (v := ?v10) ho (by rfl) (fun w₁ h₁=>⟨run_eq_of fun K hK => ?r10,?e10⟩) ?x6
   case r10=>have hc:=((hk.sees (ha.cD)).rely h₁).2; go_simp; exact hK
   case e10=>have hc:=((hk.sees (ha.cD)).rely h₁).2; intro e he; simp[go_sem, *] at he; subst he; exact((hk.sees (ha.cD)).rely h₁).GD
   exact eP _ _ _ ⟨hk,v,hv' 10 (by omega),hs.put (i:=10) (by omega) (fun h=>by omega) rfl⟩
  ·have lP:=cA ho
   subst lP
   have f0:a'.tmps[0]? = some _:=(hs.old 0 (by omega)).trans t0
   refine dQ C (v := ?v11) ho (by rfl) (fun w=>run_eq_of fun K hK => ?r11) (fun w => ?e11) ?GQ
   case r11=>go_simp; exact hK
   case e11=>simp[go_sem, *]
   exact eP _ _ _ ⟨hk,v,hv' 11 (by omega),hs.put (i:=11) (by omega) (fun h=>by omega) rfl⟩
  ·have lP:=cA ho
   subst lP
   have d11:L 11=true:=uG { on:=11,ground:=Ground.data } (by simp) rfl
   have e11:a'.tmps[28]? = some _:=hs.vals 11 (by omega) d11
   simp only[rY] at e11
   refine dQ C (v := ?v12) ho (by rfl) (fun w=>run_eq_of fun K hK => ?r12) (fun w => ?e12) ?XW
   case r12=>go_simp; exact hK
   case e12=>simp[go_sem, *]
   exact eP _ _ _ ⟨hk,v,hv' 12 (by omega),hs.put (i:=12) (by omega) (fun h=>by omega) rfl⟩
  ·have lP:=cA ho
   subst lP
   have d12:L 12=true:=uG { on:=12,ground:=Ground.data } (by simp) rfl
   have e12:a'.tmps[29]? = some _:=hs.vals 12 (by omega) d12
   simp only[rY] at e12
   refine pE C hp (v := ?v13) ho (by rfl) (fun w₁ h₁=>⟨run_eq_of fun K hK => ?r13,?e13⟩) ?h13
   case r13=>have hc:=((hk.sees (hb.cD)).rely h₁).2; go_simp; exact hK
   case e13=>have hc:=((hk.sees (hb.cD)).rely h₁).2; intro e he; simp[go_sem, *] at he; subst he; exact((hk.sees (hb.cD)).rely h₁).GD
   exact eP _ _ _ ⟨hk,v,hv' 13 (by omega),hs.put (i:=13) (by omega) (fun h=>by omega) rfl⟩
  ·have lP:=cA ho
   subst lP
   have d10:L 10=true:=uG { on:=10,ground:=Ground.data } (by simp) rfl
   have e10:a'.tmps[27]? = some _:=hs.vals 10 (by omega) d10
   simp only[rY] at e10
   have d13:L 13=true:=uG { on:=13,ground:=Ground.data } (by simp) rfl
   have e13:a'.tmps[30]? = some _:=hs.vals 13 (by omega) d13
   simp only[rY] at e13
   refine dQ C (v := ?v14) ho (by rfl) (fun w=>run_eq_of fun K hK => ?r14) (fun w => ?e14) ?h14
   case r14=>go_simp; exact hK
   case e14=>simp[go_sem, *]
   exact eP _ _ _ ⟨hk,v,hv' 14 (by omega),hs.put (i:=14) (by omega) (fun h=>by omega) rfl⟩
  ·have lP:=cA ho
   subst lP
   have d3:L 3=true:=uG { on:=3,ground:=Ground.data } (by simp) rfl
   have e3:a'.tmps[20]? = some _:=hs.vals 3 (by omega) d3
   simp only[rY] at e3
   have d7:L 7=true:=uG { on:=7,ground:=Ground.data } (by simp) rfl
   have e7:a'.tmps[24]? = some _:=hs.vals 7 (by omega) d7
   simp only[rY] at e7
   have d14:L 14=true:=uG { on:=14,ground:=Ground.data } (by simp) rfl
   have e14:a'.tmps[31]? = some _:=hs.vals 14 (by omega) d14
   simp only[rY] at e14
   refine MK C ho (by rfl) rfl (Post:=fun γ'' v Pu=>γ''.1=p∧kQ γ''.2 Pu w'.heap.size 3 1 v (gr da db x y).length (XE (gr da db x y))∧Kept γ' w' γ''.2 Pu) ?_ ?_
   ·simp only[List.map_toArray,bQ,fK,Act.eval,bg,e3,e7,e14,Option.getD_some]
    exact Sz C hp _ (hk.EU Pe) (hk.EU Uo) (uv.lo _) (y7.up _)
   rintro⟨p',γ4⟩ v4 w4 ⟨hp4,D2,Uu⟩
   simp only at hp4 Uu D2
   subst p'
   exact eP _ _ _ ⟨hk.trans Uu,v4,fun _=>D2.more hk.size,(hs.val hL (fun j hj=>by match j,hj with | 15,hj=>exact absurd rfl hj | 0,_ | 1,_ | 2,_ | 3,_ | 4,_ | 5,_ | 6,_ | 7,_ | 8,_ | 9,_ | 10,_ | 11,_ | 12,_ | 13,_ | 14,_ | 16,_ | 17,_ | _+18,_=>rfl)).put (i:=15) (by omega) (fun h=>by omega) rfl⟩
  ·have lP:=cA ho
   subst lP
   have d15:L 15=true:=uG { on:=15,ground:=Ground.data } (by simp) rfl
   have e15:a'.tmps[32]? = some _:=hs.vals 15 (by omega) d15
   simp only[rY] at e15
   have fD:=hv d15
   obtain⟨A,cap,rfl,-⟩:=fD.EU
   refine dQ C (v := ?v16) ho (by rfl) (fun w=>run_eq_of fun K hK => ?r16) (fun w => ?e16) ?h16
   case r16=>go_simp; exact hK
   case e16=>simp[go_sem, *]
   exact eP _ _ _ ⟨hk,_,hv' 16 (by omega),hs.put (i:=16) (by omega) (fun _=>d15) rfl⟩
  ·have lP:=cA ho
   subst lP
   refine dQ C (v := ?v17) ho (by rfl) (fun w=>run_eq_of fun K hK => ?r17) (fun w => ?e17) ?h17
   case r17=>go_simp; exact hK
   case e17=>simp[go_sem, *]
   exact eP _ _ _ ⟨hk,v,hv' 17 (by omega),hs.put (i:=17) (by omega) (fun h=>by omega) rfl⟩
 ·obtain⟨hk,v,hv,hs⟩:=hJ
  have hA:∀ i,i<18→L i=true:=fun i hi=>fA i hi
  have Zg:=hs.vals 15 (by omega) (hA 15 (by omega))
  have h16:=hs.vals 16 (by omega) (hA 16 (by omega))
  have h17:=hs.vals 17 (by omega) (hA 17 (by omega))
  exact hQ v γ' a' w' hs.defers hs.size hs.old Zg h16 h17 (hv (hA 15 (by omega))) hk
end Go.Co
end
section
namespace Go.Co
open Go Go.Conc Go.Proofs
variable {af:Machine→Trace→Prop} {γ:So} {w:World}
theorem Mm {P:Program} {main:Bool} {K:Gm→Goroutine→World→Prop} {p:Pc} {a:Act} {ops:Array Oper} {i:Nat} {rest:List Nat} {o:Oper} (C:KC P main K Az E1) (hp:p ≠ .ret) {v:Value} {b:Frame} {k:List Item} {cs:List Frame} (ho:ops[i]? = some o) (hw:Region.wanted o (yielded ops a.tmps)=true) (hk:b.kind ≠ .early)
  (hrun:∀ w₁,jd γ w w₁→(execOp a.eval o).run P w₁ = .ok (.value v) w₁∧∀ e∈(execOp a.eval o).events P w₁ #[],U6 γ.1 γ.2 e) (h:K (p,γ) (G (b.at (a.put o.dst v) (.inRegion ops rest::k)) cs) w):K (p,γ) (G (b.at a (.inRegion ops (i::rest)::k)) cs) w :=
 C.step _ _ _ _ fun w₁ r=>⟨_,_,_,_,(p,γ),stepG_value ho hw hk (hrun w₁ (UK hp r)).1,stg hp ⟨rfl,HP fun e he=>(hrun w₁ (UK hp r)).2 e (mem_listed he)⟩,C.rely _ _ _ _ r h⟩
theorem J8:(Tryz.prog.info? 79).map (fun i=>(i.zero,i.size,i.bytes))=some (some (.agg #[.int .i64 0,.int .i64 0,.int .i64 0]),3,24):=by kernel_rfl
theorem I1 (w:World) (x y s:Int):(Instr.build 79 #[(0,.int .i64 x),(1,.int .i64 y),(2,.int .i64 s)]).run Tryz.prog w = .ok (.agg #[.int .i64 x,.int .i64 y,.int .i64 s]) w :=
 run_build w 79 _ _ (by kernel_rfl)
theorem CZ (w:World) (es:Array Event) (x y s:Int):(Instr.build 79 #[(0,.int .i64 x),(1,.int .i64 y),(2,.int .i64 s)]).events Tryz.prog w es=es:=by
 obtain⟨i0,hi,GK,O9,hz2⟩:=info_parts J8
 obtain⟨i3,hi3,hy0,Uk,hy2⟩:=info_parts Qz
 simp[Instr.build,run_underlying Tryz.underlying79,sizeOf,typeInfo,zeroValue,hi,GK,hi3,Uk]
 split<;>simp
noncomputable def FF:Code:=Tryz.f102.body.getD .skip
noncomputable def X84:Code:=match FF with | .seq x _=>x | _ => .skip
noncomputable def YS:Code:=match FF with | .seq _ r=>r | _ => .skip
theorem Ep (a b:Wk) (x y:Int) (ys:List Int):msgs a b x (y::ys)=(gr a b x y).map (za x y)++msgs a b x ys:=by simp[msgs]
def afn (cf cl bl:Nat) (tv:Value) (γ':Gm) (e:Exit) (a':Act) (w':World):Prop:=e = .normal∧γ'.1=wk cf cl tv []∧bE γ'.2 w' ⟨bl,0,none⟩ (.chan (some cl))∧a'.defers=[]∧a'.tmps.size=46∧a'.tmps[4]? = some (.pointer (some ⟨bl,0,none⟩))
theorem TE {bb ba bx bf bl:Nat} {vl:Value} {nl k:Nat} {y:Int} {v:Value} {m:Nat} {a:Act} (hd:a.defers=[]) (hsz:a.tmps.size=46) (t0:a.tmps[0]? = some (.pointer (some ⟨bb,0,none⟩))) (t1:a.tmps[1]? = some (.pointer (some ⟨ba,0,none⟩))) (t2:a.tmps[2]? = some (.pointer (some ⟨bx,0,none⟩))) (t3:a.tmps[3]? = some (.pointer (some ⟨bf,0,none⟩))) (t4:a.tmps[4]? = some (.pointer (some ⟨bl,0,none⟩)))
  (t6:a.tmps[6]? = some (.int .i64 y)) (t11:a.tmps[11]? = some vl) (t12:a.tmps[12]? = some (.int .i64 nl)) (t13:a.tmps[13]? = some (.int .i64 k)) (t32:a.tmps[32]? = some v) (t33:a.tmps[33]? = some (.int .i64 m)) (t34:a.tmps[34]? = some (.int .i64 0)):∃ u,a=QK bb ba bx bf bl vl nl k y v m 0 u:=by
 obtain⟨T,df⟩:=a
 simp only at hd hsz
 subst hd
 obtain⟨v0,v1,v2,v3,v4,v5,v6,v7,v8,v9,v10,v11,v12,v13,v14,v15,v16,v17,v18,v19,v20,v21,v22,v23,v24,v25,v26,v27,v28,v29,v30,v31,v32,v33,v34,v35,v36,v37,v38,v39,v40,v41,v42,v43,v44,v45,rfl⟩:=Xu T hsz
 simp at t0 t1 t2 t3 t4 t6 t11 t12 t13 t32 t33 t34
 subst t0 t1 t2 t3 t4 t6 t11 t12 t13 t32 t33 t34
 exact oG rfl
set_option maxRecDepth 100000 in
set_option maxHeartbeats 2000000 in
theorem IM (hP:Plain Tryz.prog) {bb ba bx bf bl cf cl:Nat} {tv:Value} {da db:Wk} {x:Int} (uv:da.ok) (y7:db.ok) (GM:0≤x) (XH:x<4)
  (ha:gp γ w ba da) (hb:gp γ w bb db) (hx:bE γ w ⟨bx,0,none⟩ (.int .i64 x)) (hf:bE γ w ⟨bf,0,none⟩ (.chan (some cf))) (hl:bE γ w ⟨bl,0,none⟩ (.chan (some cl))) :
  KJ (KG Tryz.prog af false) 102 (wk cf cl tv (msgs da db x db.bp),γ) X84 (afn cf cl bl tv)
   ⟨#[.pointer (some ⟨bb,0,none⟩),.pointer (some ⟨ba,0,none⟩),.pointer (some ⟨bx,0,none⟩),.pointer (some ⟨bf,0,none⟩),.pointer (some ⟨bl,0,none⟩),undef,undef,undef,undef,undef,undef,undef,undef,undef,undef,undef,undef,undef,undef,undef,undef,undef,undef,undef,undef,undef,undef,undef,undef,undef,undef,undef,undef,undef,undef,undef,undef,undef,undef,undef,undef,undef,undef,undef,undef,undef],[]⟩ w:=by
 have C:=zk (af:=af) (main:=false) hP
 have hp:∀ vs,wk cf cl tv vs ≠ .ret:=fun vs=>(Lu vs).1
 obtain⟨vl,hvl,A,cap,rfl,hA⟩:=hb.bp
 have acg:=y7.few
 refine aY C (cr C ?_)
 refine av C ?_
 try walk_nrm
 refine av C ?_
 try walk_nrm
 refine jj C (hp _) hvl ?_
 try walk_nrm
 refine av C ?_
 try walk_nrm
 refine av C ?_
 try walk_nrm
 refine aT C ?_
 co_then
 refine gH C ?_
 refine oy C (fun n γ' a w'=>∃ γ3 k,γ'=(wk cf cl tv (msgs da db x (db.bp.drop k)),γ3)∧Kept γ w γ3 w'∧k≤db.bp.length∧n=db.bp.length-k∧∃ u,a=YJ bb ba bx bf bl (.slice A db.bp.length cap) db.bp.length k u) (n:=db.bp.length) ⟨γ,0,rfl,Kept.refl _ _,by omega,by omega,oG rfl⟩ ?_
 rintro n γ' a w' ⟨γ3,k,hγ,y6,hk,hn,u,Dc⟩
 subst hγ
 unfold YJ at Dc
 subst Dc
 refine aY C (cr C ?_)
 by_cases hlt:k<db.bp.length
 ·have Zd:decide ((k:Int)<(db.bp.length:Int))=true:=by simpa using hlt
  obtain⟨y,hy⟩:∃ y,db.bp[k]? = some y:=⟨_,bH hlt⟩
  obtain⟨ad,hAe,hsA⟩:=hA k y hy
  subst hAe
  have hyb:=y7.bp k y hy
  have QF:db.bp.drop k=y::db.bp.drop (k+1):=by
   rw[nL hlt]
   congr 1
   exact cA ((bH hlt).symm.trans hy)
  have hs3:=y6.sees hsA
  have hw5:IntKind.i64.wrap ((k:Int)+1)=(k:Int)+1:=by rw[vn]<;>omega
  refine av C ?_
  try walk_nrm
  refine aT C ?_
  co_then
  refine aY C (dx C (t:=true) rfl ?_)
  simp only[if_true]
  refine ki C ?_
  co_then
  refine aY C (gH C (aY C (cr C ?_)))
  refine av C ?_
  try walk_nrm
  refine jj C (hp _) hs3 ?_
  try walk_nrm
  refine av C ?_
  try walk_nrm
  refine aT C ?_
  co_then
  rw[QF,Ep]
  clear hs3 hA
  refine aY C (Wu C (hp _) (ha.kept y6) (hb.kept y6) (y6.sees hx) GM XH hyb.1 (by omega) uv y7 rfl rfl rfl rfl rfl rfl ?_)
  intro v γ4 a4 w4 UW ab2 hold h32 h33 h34 fD Uu
  co_then
  obtain⟨A2,rS,rfl,hA2⟩:=fD.EU
  obtain⟨u4,ha4⟩:=TE (bb:=bb) (ba:=ba) (bx:=bx) (bf:=bf) (bl:=bl) (vl := .slice (some ad) db.bp.length cap) (nl:=db.bp.length) (k:=k) UW ab2 (hold 0 (by omega)) (hold 1 (by omega)) (hold 2 (by omega)) (hold 3 (by omega)) (hold 4 (by omega)) (hold 6 (by omega)) (hold 11 (by omega)) (hold 12 (by omega)) (hold 13 (by omega)) h32 h33 h34
  clear hold h32 h33 h34 UW ab2 fD
  have aeN:=y6.trans Uu
  generalize Y8:gr da db x y=l at *
  refine gH C ?_
  refine oy C (fun n γ' a w'=>∃ γ5 j,γ'=(wk cf cl tv ((l.drop j).map (za x y)++msgs da db x (db.bp.drop (k+1))),γ5)∧Kept γ4 w4 γ5 w'∧j≤l.length∧n=l.length-j∧∃ u,a=QK bb ba bx bf bl (.slice (some ad) db.bp.length cap) db.bp.length k y (.slice A2 l.length rS) l.length j u) (n:=l.length) ⟨γ4,0,rfl,Kept.refl _ _,by omega,by omega,u4,ha4⟩ ?_
  clear ha4 y6
  rintro n2 γ' a w6 ⟨γ5,j,hγ,Lg,hj,hn2,u,ha5⟩
  subst hγ
  unfold QK at ha5
  subst ha5
  have XL:=aeN.trans Lg
  refine aY C (cr C ?_)
  by_cases Vp:j<l.length
  ·have hd2:decide ((j:Int)<(l.length:Int))=true:=by simpa using Vp
   obtain⟨s,hs⟩:∃ s,l[j]? = some s:=⟨_,bH Vp⟩
   obtain⟨XY,afa,aeB⟩:=hA2 j s hs
   subst afa
   have abn:l.drop j=s::l.drop (j+1):=by
    rw[nL Vp]
    congr 1
    exact cA ((bH Vp).symm.trans hs)
   have Y0:=Lg.sees aeB
   have hf5:=XL.sees hf
   have hx5:=XL.sees hx
   have hw6:IntKind.i64.wrap ((j:Int)+1)=(j:Int)+1:=by
    have h1:=(y7.up y.toNat).1
    have h2:=(uv.lo x.toNat).1
    have h3:l.length≤2001:=by
     rw[← Y8]
     exact aS (FQ _ _ _ _) (by omega)
    rw[vn]<;>omega
   refine av C ?_
   try walk_nrm
   refine aT C ?_
   co_then
   refine aY C (dx C (t:=true) rfl ?_)
   simp only[if_true]
   refine ki C ?_
   co_then
   refine aY C (gH C (aY C (cr C ?_)))
   refine av C ?_
   try walk_nrm
   refine jj C (hp _) Y0 ?_
   try walk_nrm
   refine av C ?_
   try walk_nrm
   refine aT C ?_
   co_then
   refine cr C ?_
   refine jj C (hp _) hf5 ?_
   try walk_nrm
   refine jj C (hp _) hx5 ?_
   try walk_nrm
   refine av C ?_
   try walk_nrm
   refine av C ?_
   try walk_nrm
   have hbr:=fun w=>I1 w x y s
   have C7:=fun w=>CZ w #[] x y s
   refine dQ C (v := ?v18) rfl (by rfl) (fun w=>run_eq_of fun K hK => ?r18) (fun w => ?e18) ?h18
   case r18=>go_simp; exact hK
   case e18=>simp[go_sem,C7]
   try walk_nrm
   clear hbr C7
   rw[abn]
   show KO _ _ (Pc.send cf (za x y s) (wk cf cl tv ((l.drop (j+1)).map (za x y)++msgs da db x (db.bp.drop (k+1)))),γ5) _ _ _ _ _
   refine WX rfl (by rfl) rfl rfl rfl (Lu _).2 (hp _) (fun w7 r7 => ?_)
   have Ut:=Lg.trans (Kept.rely r7)
   clear Y0 hf5 hx5 XL Lg
   try walk_nrm
   refine aT C ?_
   co_then
   refine cr C ?_
   refine av C ?_
   try walk_nrm
   refine av C ?_
   try walk_nrm
   refine aT C (eB ?_)
   exact⟨l.length-(j+1),by omega,γ5,j+1,rfl,Ut,by omega,rfl,oG rfl⟩
  ·have hje:j=l.length:=by omega
   subst hje
   have hd2:decide ((l.length:Int)<(l.length:Int))=false:=by simp
   simp only[List.drop_length,fK,List.nil_append]
   refine av C ?_
   try walk_nrm
   refine aT C ?_
   co_then
   refine aY C (dx C (t:=false) rfl ?_)
   simp only[aF,if_false]
   refine nD C ?_
   co_then
   refine cr C ?_
   refine av C ?_
   try walk_nrm
   refine av C ?_
   try walk_nrm
   refine aT C (eB ?_)
   exact⟨db.bp.length-(k+1),by omega,γ5,k+1,rfl,XL,by omega,rfl,oG rfl⟩
 ·have Lf:k=db.bp.length:=by omega
  subst Lf
  have Zd:decide ((db.bp.length:Int)<(db.bp.length:Int))=false:=by simp
  simp only[List.drop_length]
  refine av C ?_
  try walk_nrm
  refine aT C ?_
  co_then
  refine aY C (dx C (t:=false) rfl ?_)
  simp only[aF,if_false]
  refine nD C ?_
  co_then
  exact⟨rfl,rfl,y6.sees hl,rfl,rfl,rfl⟩
noncomputable def bot:Frame:={ (default:Frame) with fn:=Tryz.prog.funcs.size,defers:=[],mode := .panicking [goexitEntry] }
def Uy:Frame:={ (default:Frame) with fn:=102,kind := .deferred }
def call84 (bb ba bx bf bl:Nat):Deferred:={ target := .fn (.func 102) #[.pointer (some ⟨bb,0,none⟩),.pointer (some ⟨ba,0,none⟩),.pointer (some ⟨bx,0,none⟩),.pointer (some ⟨bf,0,none⟩),.pointer (some ⟨bl,0,none⟩)],args:=#[] }
theorem Wz (a:Act) (hd:a.defers=[]) (ops:Array Oper):QuitsIn Tryz.prog 4 (G (Uy.at a [.inRegion ops []]) [bot]):=by
 obtain⟨T,df⟩:=a
 simp only at hd
 subst hd
 refine .inr ⟨rfl,_,fun w=>stepG_region_end,?_⟩
 refine .inr ⟨rfl,_,fun w=>stepG_end,?_⟩
 refine .inr ⟨rfl,G bot [],fun w => ?_,?_⟩
 ·simp[G,stepG,unwind,doReturn,results,Frame.at,Uy,bot,Tryz.func102,Tryz.f102,seen,GStep.after,goexitEntry]
 refine .inr ⟨rfl,{ G bot [] with status := .finished },fun w => ?_,rfl⟩
 simp[G,stepG,unwind,bot,goexitEntry,Frame.catches]
 rfl
theorem abA (bb ba bx bf bl:Nat) (w:World):stepG Tryz.prog false (born Tryz.prog (call84 bb ba bx bf bl)) w =
  .go (G (Uy.at ⟨#[.pointer (some ⟨bb,0,none⟩),.pointer (some ⟨ba,0,none⟩),.pointer (some ⟨bx,0,none⟩),.pointer (some ⟨bf,0,none⟩),.pointer (some ⟨bl,0,none⟩),undef,undef,undef,undef,undef,undef,undef,undef,undef,undef,undef,undef,undef,undef,undef,undef,undef,undef,undef,undef,undef,undef,undef,undef,undef,undef,undef,undef,undef,undef,undef,undef,undef,undef,undef,undef,undef,undef,undef,undef,undef],[]⟩ [.code FF]) [bot]) w #[]:=by
 simp[born,call84,stepG,unwind,callDeferred,invoke,callFunc,Tryz.func102,Tryz.f102,seen,GStep.after,G,Frame.enter,Frame.at,Uy,bot,FF]
set_option maxRecDepth 100000 in
theorem NI (hP:Plain Tryz.prog) {bb ba bx bf bl cf cl:Nat} {da db:Wk} {x:Int} (uv:da.ok) (y7:db.ok) (GM:0≤x) (XH:x<4)
  (ha:gp γ w ba da) (hb:gp γ w bb db) (hx:bE γ w ⟨bx,0,none⟩ (.int .i64 x)) (hf:bE γ w ⟨bf,0,none⟩ (.chan (some cf))) (hl:bE γ w ⟨bl,0,none⟩ (.chan (some cl))) :
  Pr Tryz.prog af false (wk cf cl (.bool true) (msgs da db x db.bp)) γ (born Tryz.prog (call84 bb ba bx bf bl)) w:=by
 have C:=zk (af:=af) (main:=false) hP
 have hne:=Lu (cf:=cf) (cl:=cl) (tv := .bool true) (msgs da db x db.bp)
 suffices h:KG Tryz.prog af false (wk cf cl (.bool true) (msgs da db x db.bp),γ) (born Tryz.prog (call84 bb ba bx bf bl)) w from h (fun _=>hne.1) hne.2
 refine C.go (fr:=(born Tryz.prog (call84 bb ba bx bf bl)).frame) (cs:=[]) (fun w=>abA bb ba bx bf bl w) ?_
 show KG Tryz.prog af false _ (G (Uy.at _ (.code (.seq X84 YS)::[])) [bot]) w
 refine C.go (fun w=>stepG_seq) ?_
 refine IM hP uv y7 GM XH ha hb hx hf hl Uy [.code YS] [bot] rfl (by simp[Uy]) ?_
 rintro⟨p',γ'⟩ e a' w' ⟨rfl,rE,iy,Aw,hsz',Up⟩
 simp only at rE iy
 subst rE
 show KG Tryz.prog af false _ (G (Uy.at a' (.code (.region _ _ false)::[])) [bot]) w'
 refine C.go (fun w=>stepG_region) ?_
 refine Mm C (Lu _).1 (v := .chan (some cl)) rfl (by rfl) (by simp[Uy]) (fun w₁ h₁=>⟨run_eq_of fun K hK => ?_,?_⟩) ?_
 ·have hc:=(iy.rely h₁).2
  clear hsz'
  go_simp
  exact hK
 ·have hc:=(iy.rely h₁).2
  intro e he
  simp[go_sem,hc,Up] at he
  subst he
  exact(iy.rely h₁).GD
 ·refine Gw rfl (by rfl) rfl ?_ rfl (by simp[Uy]) ⟨4,QuitsD.of_quitsIn (Wz _ (by exact Aw) _)⟩
  simp[Act.eval,Act.put,hsz']
end Go.Co
end
