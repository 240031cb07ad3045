import Derived.Test.YtadeehilamokkaaGreatDoorPk30
import Derived.Conc.SmallLaws
import Derived.Shelf.SlSortCmp.WholeK
import Derived.Shelf.SlicesG.Cmp
import Derived.Shelf.Lay
import Derived.Ground.SlsfProg
import Derived.Ground.SlgcProg
import Derived.WalkKit
import Derived.WalkSpells
import Derived.WalkLawsBesides
import Derived.StillTailTactics
import Derived.Deep.QuietTactic
import Derived.BigQuiet
import Derived.Lib.Hide
import Derived.Test.YtadeehilamokkaaGreatDoorPk19
import GoSem.Extern.Table
set_option maxHeartbeats 2000000
set_option maxRecDepth 100000
namespace Go.Co
open Go Go.Conc Go.Proofs
open Classical
variable {P:Program} {aa:Machine->Trace->Prop} {γ:So} {w:World}
noncomputable def HZ:Code:=match rD with|.seq _ (.seq _ (.seq _ (.seq _ x)))=>x|_=>.skip
noncomputable def agQ:Code:=match rD with|.seq _ (.seq x _)=>x|_=>.skip
noncomputable def agP:Code:=match rD with|.seq _ (.seq _ (.seq x _))=>x|_=>.skip
noncomputable def aeh:Code:=match rD with|.seq _ (.seq _ (.seq _ (.seq (.seq x _) _)))=>x|_=>.skip
def eF(da db:Wk):List Sm:=da.bp.flatMap λx=>db.bp.flatMap λy=>(gF da db x y).map λs=>(x,y,s)
theorem Pz(da db:Wk)(x:Int):∀ys:br,msgs da db x ys=(ys.flatMap λy=>(gF da db x y).map λs=>(x,y,s)).map vr
 |[]=>rfl
 |y::ys=>by rw[Gv,Pz da db x ys,de,iI,nV];rfl
theorem aaD(da db:Wk):(da.bp.map λx=>msgs da db x db.bp).flatten=(eF da db).map vr:=by
 unfold eF;induction da.bp with
 |nil=>rfl
 |cons x l ih=>rw[bg,List.flatten_cons,ih,de,iI,Pz]
theorem uk{α β:Type}(f:α->List β)(c:Nat):∀l:List α,(∀x∈l,(f x).length<=c)->(l.flatMap f).length<=l.length*c
 |[],_=>ab
 |a::l,h=>by have h1:=h a ab;have h2:=uk f c l λx hx=>h x (by simp[hx]);rw[de,dM,dA,j7];omega
theorem Eo{da db:Wk}(wj:da.ok)(AV:db.ok):(eF da db).length<=4294967296:=by
 have h1:∀x∈da.bp,(db.bp.flatMap λy=>(gF da db x y).map λs=>(x,y,s)).length<=1000*2001:=by intro x _;refine bz (uk _ 2001 _ λy _=>?_) (gp _ AV.few);rw[List.length_map];have h2:=(AV.up y.toNat).1;have h3:=(wj.lo x.toNat).1;exact bz (Ig _ _ _ _) U
 have h4:=uk _ _ _ h1;have h5:=gp (1000*2001) wj.few;unfold eF;omega
theorem aab(hP:Plain Tryz.prog){b2 b3 b5 b6 cf cl:Nat}{da db:Wk}(wj:da.ok)(AV:db.ok){A:Nat->Prop}{B0:Nat}{w0:World}(hS:Jp A B0 w0 γ w)(hF:Fx da db b2 b3 b5 b6 cf cl γ w)(u:Nat->Value){Qf:Exit->Act->World->Prop}
  (hT:∀γ' a' w',acX A B0 w0 (eF da db) (.ret,γ') .normal a' w'->KJ (iB Tryz.prog aa) 64 () HZ (λ_=>Qf) a' w'):
  KJ (KG Tryz.prog aa true) 64 (chain cf cl (.bool true) (.bool false) false da.bp.length (Cj cf (.agg #[.int .i64 0,.int .i64 0,.int .i64 0]) ((eF da db).map vr)) (da.bp.map λx=>msgs da db x db.bp),γ) rD (λγ' e a' w'=>γ'.1=.ret/\Qf e a' w') (OG b2 b3 b5 b6 u) w:=by
 have C:=A8 (aa:=aa) (main:=true) hP;have acA:Cj cf (.agg #[.int .i64 0,.int .i64 0,.int .i64 0]) ((eF da db).map vr)≠.ret/\Cj cf (.agg #[.int .i64 0,.int .i64 0,.int .i64 0]) ((eF da db).map vr)≠.stop:=by obtain⟨q,hq⟩:=vo (cf:=cf) (z:=.agg #[.int .i64 0,.int .i64 0,.int .i64 0]) ((eF da db).map vr);rw[hq];simp
 generalize Qq:Cj cf (.agg #[.int .i64 0,.int .i64 0,.int .i64 0]) ((eF da db).map vr)=pc at*;show KJ _ _ _ (.seq aeW (.seq agQ (.seq agP (.seq (.seq aeh U1) HZ)))) _ _ _;refine aW C (yd (adl hP wj AV hS hF u) ?_);rintro⟨p',γ'⟩ e a' w' ⟨rfl,sD,Ci,hF',-,vl,nl,k,u',rfl⟩;simp only at sD Ci hF';subst sD;unfold JK;refine aW C (b7 C ?_);refine dK C (v:=?v1) rfl (by rfl) (λw=>run_eq_of λK hK=>?r1) (λw=>?e1) ?h1
 case r1=>go_simp;exact hK
 case e1=>simp[go_sem,Instr.makeFunc]
 try walk_nrm
 show KO _ _ (Pc.go (Jh cf cl (.bool false) false da.bp.length) pc,γ') _ _ _ _ _;refine abr (d:=call85 b2 b6 b5) (f:=.func 101) (cap:=#[.pointer (some ⟨b2,0,none⟩),.pointer (some ⟨b6,0,none⟩),.pointer (some ⟨b5,0,none⟩)]) rfl (by rfl) (λw=>?_) (λw=>?_) rfl acA.2 (λ_=>acA.1) (λw9 r9 w10 r10=>?_) (λw9 r9 w10 r10=>?_);simp[execOp,resolve,Act.eval,call85,Deferred.ofValue];simp[execOp,resolve,Act.eval,Deferred.ofValue];have Qs:=((hF'.kept (Kept.rely r9)).give).kept (Kept.rely r10);exact SI hP wj Qs.wa Qs.f Qs.l;have Qs:=((hF'.kept (Kept.rely r9)).give).kept (Kept.rely r10);have hS9:=((Ci.kept (Kept.rely r9)).give).kept (Kept.rely r10);have hf9:=Qs.f;clear hF' Ci Qs;try walk_nrm
 refine aT C ?_;co_then;refine aW C (b7 C ?_);refine av C ?_;try walk_nrm
 refine aT C ?_;co_then;refine aW C (aW C (b7 C ?_));refine ql C acA.1 (v:=?v21) rfl (by rfl) (λw₁ h₁=>⟨run_eq_of λK hK=>?r21,?e21⟩) ?h21
 case r21=>have hc:=(bF.rely hf9 h₁).2;go_simp;exact hK
 case e21=>have hc:=(bF.rely hf9 h₁).2;intro e he;simp[go_sem,hc]at he;subst he;exact(bF.rely hf9 h₁).Jg
 try walk_nrm
 refine aT C ?_;co_then;subst Qq;refine(?_:∀a',(∃u,a'=OH cf (.slice none 0 0) u)->KJ _ _ _ U1 _ a' _) _ (pg rfl);rintro a' ⟨u2,rfl⟩;refine yd (XM hP (Eo wj AV) hS9 u2) ?_;rintro⟨p3,γ3⟩ e a3 w3 hE;have he:=hE.1;have hp3:=hE.2.1;simp only at hp3;subst he;subst hp3;refine(?_:KJ (KG Tryz.prog aa true) 64 (.ret,γ3) HZ (λγ' e a' w'=>γ'.1=.ret/\Qf e a' w') a3 w3);exact Xu (yd (hT γ3 a3 w3 hE) λ_ e a w q=>⟨rfl,q⟩)
end Go.Co
namespace Go.Co
open Go Go.Conc Go.Proofs
open Classical
variable {P:Program} {aa:Machine->Trace->Prop} {γ:So} {w:World}
theorem afy{fn:FuncId}{c:Code}{a:Act}{Q:Gm->Exit->Act->World->Prop}(h:∀w1,iL γ w w1->KJ (iB P aa) fn () c (λ_ e a w'=>∃γ',Q (.bad,γ') e a w') a w1):KJ (QL P aa) fn (.bad,γ) c Q a w:=by
 intro b k cs hb hk hc _ w1 r;refine h w1 r b k cs hb hk λ_ e a' w' q=>?_;obtain⟨γ',q⟩:=q;have h:=hc _ _ _ _ q;cases e with
 |normal=>exact h rfl w' (ic _ _)
 |exit id=>obtain⟨k',h1,h2⟩:=h;exact⟨k',h1,h2 rfl w' (ic _ _)⟩
 |ret=>exactλtodo=>h todo rfl w' (ic _ _)
 |goto l=>exact h
 |panic ch=>exact h
 |outgrown=>exact h
structure vQ (γ:So) (w:World) (cs:Array Value) (d:Wk):Prop where
 cO:cs[2]? =some (.int .i64 d.cO)
 bp:∃v,cs[3]? =some v/\zu γ w v d.bp
 up:∀i,i<4->∃v,cs[4+i*2]? =some v/\zu γ w v (d.up i)
 lo:∀i,i<4->∃v,cs[4+i*2+1]? =some v/\zu γ w v (d.lo i)
theorem vQ.kept {cs:Array Value}{d:Wk}{γ':So}{w':World}(h:vQ γ w cs d)(k:Kept γ w γ' w'):vQ γ' w' cs d:=
 ⟨h.cO,h.bp.imp λ_ ⟨h1,h2⟩=>⟨h1,k.G7 h2⟩,λi hi=>(h.up i hi).imp λ_ ⟨h1,h2⟩=>⟨h1,k.G7 h2⟩,λi hi=>(h.lo i hi).imp λ_ ⟨h1,h2⟩=>⟨h1,k.G7 h2⟩⟩
theorem vQ.boxed {cs:Array Value}{d:Wk}{t:TypeId}(h:vQ γ w cs d):fW (γ.more w.heap.size) (w.alloc (.cells cs t)) w.heap.size d:=by have k:=Kept.alloc γ w w.heap.size (.cells cs t);exact⟨bF.fresh rfl h.cO,h.bp.imp λ_ ⟨h1,h2⟩=>⟨bF.fresh rfl h1,k.G7 h2⟩,λi hi=>(h.up i hi).imp λ_ ⟨h1,h2⟩=>⟨bF.fresh rfl h1,k.G7 h2⟩,λi hi=>(h.lo i hi).imp λ_ ⟨h1,h2⟩=>⟨bF.fresh rfl h1,k.G7 h2⟩⟩
def Ch(γ:So)(w:World)(c:Nat):Prop:=γ.all c/\w.heap[c]? =some (.chan 0 #[] false 0 0 false)
theorem Ch.lt {c:Nat}(h:Ch γ w c):c<w.heap.size:=(aG.1 h.2).1
theorem Ch.kept {c:Nat}{γ':So}{w':World}(h:Ch γ w c)(k:Kept γ w γ' w'):Ch γ' w' c:=⟨k.all h.1,(k.blk c h.1 h.lt).trans h.2⟩
def Shr(w:World)(cf cl:Nat):So:=(λb=>b<w.heap.size/\b≠cf/\b≠cl,λ_=>False)
theorem bF.shr {cf cl:Nat}{ad:Addr}{v:Value}(hf:Ch γ w cf)(hl:Ch γ w cl)(h:bF γ w ad v):bF (Shr w cf cl) w ad v:=by
 refine⟨.inl ⟨h.lt,λe=>?_,λe=>?_⟩,h.2⟩;have:=h.2;simp[World.cell?,e,hf.2]at this
 have:=h.2;simp[World.cell?,e,hl.2]at this
theorem zu.shr {cf cl:Nat}{v:Value}{l:br}(hf:Ch γ w cf)(hl:Ch γ w cl)(h:zu γ w v l):zu (Shr w cf cl) w v l:=by obtain⟨A,cap,rfl,h⟩:=h;exact⟨A,cap,rfl,λi x hx=>by obtain⟨ad,h1,h2⟩:=h i x hx;exact⟨ad,h1,h2.shr hf hl⟩⟩
theorem fW.shr {cf cl b:Nat}{d:Wk}(hf:Ch γ w cf)(hl:Ch γ w cl)(h:fW γ w b d):fW (Shr w cf cl) w b d:=
 ⟨h.cO.shr hf hl,h.bp.imp λ_ ⟨h1,h2⟩=>⟨h1.shr hf hl,h2.shr hf hl⟩,λi hi=>(h.up i hi).imp λ_ ⟨h1,h2⟩=>⟨h1.shr hf hl,h2.shr hf hl⟩,λi hi=>(h.lo i hi).imp λ_ ⟨h1,h2⟩=>⟨h1.shr hf hl,h2.shr hf hl⟩⟩
def Old(A:Nat->Prop)(B0:Nat)(w0 w:World):Prop:=(∀b,A b->w.heap[b]? =w0.heap[b]?)/\B0<=w.heap.size/\w.os=w0.os/\w.output=w0.output
def VH(aa:Machine->Trace->Prop)(R:List Sm):Prop:=∀A B0 w0 γ' a' w',acX A B0 w0 R (.ret,γ') .normal a' w'->
 KJ (iB Tryz.prog aa) 64 () HZ (λ_ e a w=>e=.ret/\a.defers=[]/\Old A B0 w0 w/\w.ownsRow B0 79 3 (a.tmps.getD 4 undef) R.length (R.flatMap qZ)) a' w'
theorem aaz:(Tryz.prog.info? 170).map (λi=>(i.zero,i.size,i.bytes))=some (some (.chan none),1,8):=by kernel_rfl
theorem aay:(Tryz.prog.info? 171).map (λi=>(i.zero,i.size,i.bytes))=some (some (.chan none),1,8):=by kernel_rfl
theorem Lr(hP:Plain Tryz.prog){ca cb:Array Value}{da db:Wk}(wj:da.ok)(AV:db.ok)(hva:vQ γ w ca da)(hvb:vQ γ w cb db)(hT:VH aa (eF da db)):
  xY (QL Tryz.prog aa) Tryz.prog (.bad,γ) 64 #[.agg ca,.agg cb] w λγ' v w'=>γ'.1=.bad/\Kept γ w γ'.2 w'/\kT γ'.2 w' w.heap.size 79 3 v (eF da db).length ((eF da db).flatMap qZ):=by
 have C:=aaw (aa:=aa) hP;have hp:Pc.bad≠Pc.ret:=ab
 obtain⟨i71,h71,-,-,b71⟩:=info_parts MU;obtain⟨i4,h4,-,-,b4⟩:=info_parts abt;obtain⟨i138,ah0,z138,-,-⟩:=info_parts aaz;obtain⟨i139,ahZ,z139,-,-⟩:=info_parts aay;refine DY Tryz.func64 (by rfl) rfl ?_;simp only[Tryz.ntmps64,iK,dA,j8,Nat.reduceAdd,Nat.reduceSub,Array.replicate_succ,Array.replicate_zero,List.push_toArray,List.append_toArray,gm,j9];show KJ _ _ _ (.seq (.region _ _ false) (.seq (.region _ _ false) (.seq (.region _ _ false) rD))) _ _ _;refine aW C (b7 C ?_);refine qm C hp (ob:=?Tw) rfl (by rfl) (λw=>run_eq_of λK hK=>?r1) (λw=>?e1) ?h1
 case r1=>go_simp;exact hK
 case e1=>simp[go_sem]
 intro w1 Tq;try walk_nrm
 have sY:=(Kept.rely Tq).trans (Kept.alloc γ w1 w1.heap.size (.cells ca 123));have X8:fW (γ.more w1.heap.size) (w1.alloc (.cells ca 123)) w1.heap.size da:=(hva.kept (Kept.rely Tq)).boxed;have aev:=hvb.kept sY;generalize w1.alloc (.cells ca 123)=W1 at*;generalize γ.more w1.heap.size=γ1 at*;generalize w1.heap.size=b2 at*;clear Tq;refine qm C hp (ob:=?Jj) rfl (by rfl) (λw=>run_eq_of λK hK=>?r2) (λw=>?e2) ?h2
 case r2=>go_simp;exact hK
 case e2=>simp[go_sem]
 intro w2 SM;try walk_nrm
 have Ju:=(Kept.rely SM).trans (Kept.alloc γ1 w2 w2.heap.size (.cells cb 123));have uC:fW (γ1.more w2.heap.size) (w2.alloc (.cells cb 123)) w2.heap.size db:=(aev.kept (Kept.rely SM)).boxed;have Oo:=X8.kept Ju;have FH:=sY.trans Ju;generalize w2.alloc (.cells cb 123)=W2 at*;generalize γ1.more w2.heap.size=γ2 at*;generalize w2.heap.size=b3 at*;clear SM Ju sY X8 aev;refine av C ?_;try walk_nrm
 refine aT C ?_;co_then;have hk:=FH;have ha:=Oo;have hb:=uC;clear FH Oo uC;refine aW C (b7 C ?_);refine HS C hp (f:=λn=>.chan (some n)) (ob:=.chan 0 #[] false 0 0 false) rfl (by rfl) (λw=>?_) (λw=>?_) ?_;have h:(Instr.makeChan 170 (.int .i64 0)).run Tryz.prog w=_:=run_makeChan (P:=Tryz.prog) (w:=w) Tryz.underlying170 h71 .i64 0 U (by rw[b71];omega);simp[execOp,Act.eval,h];have h:(Instr.makeChan 170 (.int .i64 0)).events Tryz.prog w #[]=_:=events_makeChan (P:=Tryz.prog) (w:=w) Tryz.underlying170 h71 .i64 0 U (by rw[b71];omega) #[];simp[execOp,Act.eval,h];intro Yj ab5;try walk_nrm
 have xB:=(Kept.rely ab5).trans (Kept.alloc _ Yj Yj.heap.size (.chan 0 #[] false 0 0 false));have hcf:Ch (So.more γ2 Yj.heap.size) (Yj.alloc (.chan 0 #[] false 0 0 false)) Yj.heap.size:=⟨.inr (.inr rfl),heap_alloc_new Yj _⟩;have aiq:w.heap.size<=Yj.heap.size:=bz hk.size ab5.1
 replace hk:=hk.trans xB
 replace ha:=ha.kept xB
 replace hb:=hb.kept xB
 generalize Yj.alloc (.chan 0 #[] false 0 0 false)=Wpa at*;generalize Yj.heap.size=cf at*;generalize So.more γ2 cf=γpa at*;clear xB ab5;refine qm C hp (ob:=.cells #[.chan none] 170) rfl (by rfl) (λw=>run_eq_of λK hK=>?r4) (λw=>?e4) ?h4
 case r4=>go_simp;exact hK
 case e4=>simp[execOp,Instr.alloc,zeroValue,typeInfo,ah0,z138,newVar,newRow]
 intro Tj ab4;try walk_nrm
 have xB:=(Kept.rely ab4).trans (Kept.alloc _ Tj Tj.heap.size (.cells #[.chan none] 170));have hz:(Tj.alloc (.cells #[.chan none] 170)).frozen? ⟨Tj.heap.size,0,none⟩=false:=World.frozen?_alloc_new _ _ _ _;have hs:bF _ _ ⟨Tj.heap.size,0,none⟩ (.chan none):=bF.fresh (γ:=γpa) (w:=Tj) (cs:=#[.chan none]) (t:=170) rfl rfl;have hO:(So.more γpa Tj.heap.size).2 Tj.heap.size:=.inr rfl;have Hi:Wpa.heap.size<=Tj.heap.size:=ab4.1;generalize Tj.alloc (.cells #[.chan none] 170)=Wpb at*;generalize Tj.heap.size=b5 at*;generalize So.more γpa b5=γpb at*;clear ab4;refine MR C hp (ad:=⟨b5,0,none⟩) (v:=.chan (some cf)) rfl (by rfl) hO (λw₁ h₁=>⟨?_,?_⟩) ?_;have hc:=(hs.rely h₁).2;have Oj:w₁.frozen? ⟨b5,0,none⟩=false:=(World.frozen?_of_block (h₁.2.1 b5 (.inr hO))).trans hz;refine(?_:∀K:Result Next->Prop,K (.ok .skip (w₁.setCell ⟨b5,0,none⟩ (.chan (some cf))))->K _) (·=_) rfl;intro K hK
 go_simp
 try(unfold stored;go_simp)
 exact hK;have hc:=(hs.rely h₁).2;have Oj:w₁.frozen? ⟨b5,0,none⟩=false:=(World.frozen?_of_block (h₁.2.1 b5 (.inr hO))).trans hz;intro e he;simp[go_sem,hc,Oj]at he;exact he;intro wpc ab3;try walk_nrm
 replace xB:=(xB.trans (Kept.rely ab3)).put (ad:=⟨b5,0,none⟩) (v:=.chan (some cf)) Hi
 have hb5:bF γpb (wpc.setCell ⟨b5,0,none⟩ (.chan (some cf))) ⟨b5,0,none⟩ (.chan (some cf)):=⟨.inr hO,World.cell?_setCell_same _ _ _ (hs.rely ab3).2⟩;generalize wpc.setCell ⟨b5,0,none⟩ (.chan (some cf))=Wpc at*
 replace hk:=hk.trans xB
 replace hcf:=hcf.kept xB
 replace ha:=ha.kept xB
 replace hb:=hb.kept xB
 clear xB hs hz Hi hO ab3;refine aT C ?_;co_then;refine aW C (b7 C ?_);refine HS C hp (f:=λn=>.chan (some n)) (ob:=.chan 0 #[] false 0 0 false) rfl (by rfl) (λw=>?_) (λw=>?_) ?_;have h:(Instr.makeChan 171 (.int .i64 0)).run Tryz.prog w=_:=run_makeChan (P:=Tryz.prog) (w:=w) Tryz.underlying171 h4 .i64 0 U (by rw[b4];omega);simp[execOp,Act.eval,h];have h:(Instr.makeChan 171 (.int .i64 0)).events Tryz.prog w #[]=_:=events_makeChan (P:=Tryz.prog) (w:=w) Tryz.underlying171 h4 .i64 0 U (by rw[b4];omega) #[];simp[execOp,Act.eval,h];intro XY YT;try walk_nrm
 have hne:cf≠XY.heap.size:=Nat.ne_of_lt (hcf.kept (Kept.rely YT)).lt;have xB:=(Kept.rely YT).trans (Kept.alloc _ XY XY.heap.size (.chan 0 #[] false 0 0 false));have o6:Ch (So.more γpb XY.heap.size) (XY.alloc (.chan 0 #[] false 0 0 false)) XY.heap.size:=⟨.inr (.inr rfl),heap_alloc_new XY _⟩;have aip:w.heap.size<=XY.heap.size:=bz hk.size YT.1
 replace hk:=hk.trans xB
 replace ha:=ha.kept xB
 replace hb:=hb.kept xB
 replace hcf:=hcf.kept xB
 replace hb5:=(xB.sees hb5)
 generalize XY.alloc (.chan 0 #[] false 0 0 false)=Wqa at*;generalize XY.heap.size=cl at*;generalize So.more γpb cl=γqa at*;clear xB YT;refine qm C hp (ob:=.cells #[.chan none] 171) rfl (by rfl) (λw=>run_eq_of λK hK=>?r5) (λw=>?e5) ?h5
 case r5=>go_simp;exact hK
 case e5=>simp[execOp,Instr.alloc,zeroValue,typeInfo,ahZ,z139,newVar,newRow]
 intro Ti ab2;try walk_nrm
 have xB:=(Kept.rely ab2).trans (Kept.alloc _ Ti Ti.heap.size (.cells #[.chan none] 171));have hz:(Ti.alloc (.cells #[.chan none] 171)).frozen? ⟨Ti.heap.size,0,none⟩=false:=World.frozen?_alloc_new _ _ _ _;have hs:bF _ _ ⟨Ti.heap.size,0,none⟩ (.chan none):=bF.fresh (γ:=γqa) (w:=Ti) (cs:=#[.chan none]) (t:=171) rfl rfl;have hO:(So.more γqa Ti.heap.size).2 Ti.heap.size:=.inr rfl;have Hi:Wqa.heap.size<=Ti.heap.size:=ab2.1;generalize Ti.alloc (.cells #[.chan none] 171)=Wqb at*;generalize Ti.heap.size=b6 at*;generalize So.more γqa b6=γqb at*;clear ab2;refine MR C hp (ad:=⟨b6,0,none⟩) (v:=.chan (some cl)) rfl (by rfl) hO (λw₁ h₁=>⟨?_,?_⟩) ?_;have hc:=(hs.rely h₁).2;have Oj:w₁.frozen? ⟨b6,0,none⟩=false:=(World.frozen?_of_block (h₁.2.1 b6 (.inr hO))).trans hz;refine(?_:∀K:Result Next->Prop,K (.ok .skip (w₁.setCell ⟨b6,0,none⟩ (.chan (some cl))))->K _) (·=_) rfl;intro K hK
 go_simp
 try(unfold stored;go_simp)
 exact hK;have hc:=(hs.rely h₁).2;have Oj:w₁.frozen? ⟨b6,0,none⟩=false:=(World.frozen?_of_block (h₁.2.1 b6 (.inr hO))).trans hz;intro e he;simp[go_sem,hc,Oj]at he;exact he;intro wqc ab1;try walk_nrm
 replace xB:=(xB.trans (Kept.rely ab1)).put (ad:=⟨b6,0,none⟩) (v:=.chan (some cl)) Hi
 have hb6:bF γqb (wqc.setCell ⟨b6,0,none⟩ (.chan (some cl))) ⟨b6,0,none⟩ (.chan (some cl)):=⟨.inr hO,World.cell?_setCell_same _ _ _ (hs.rely ab1).2⟩;generalize wqc.setCell ⟨b6,0,none⟩ (.chan (some cl))=Wqc at*
 replace hk:=hk.trans xB
 replace o6:=o6.kept xB
 replace ha:=ha.kept xB
 replace hb:=hb.kept xB
 replace hcf:=hcf.kept xB
 replace hb5:=(xB.sees hb5)
 clear xB hs hz Hi hO ab1;refine aT C ?_;co_then;refine afy λw1 r1=>?_;have hkr:=Kept.rely r1;have Ue:=hcf.kept hkr;have Ud:=o6.kept hkr;have sY:=hk.trans hkr;have hS:Jp (λb=>γ.all b/\b<w.heap.size) w.heap.size w (Shr w1 cf cl) w1:=
  ⟨λb h=>h.2,λb h=>.inl ⟨cG h.2 sY.size,by have:=h.2;omega,by have:=h.2;omega⟩,λb h=>sY.blk b h.1 h.2,sY.size,sY.env⟩
 refine(?_:∀a',(∃u,a'=OG b2 b3 b5 b6 u)->KJ _ _ _ rD _ a' _) _ (pg rfl);rintro a' ⟨u,rfl⟩;have hW:∀n,0<n->CU (λc=>c=cf\/c=cl) (entry n (chain cf cl (.bool true) (.bool false) false da.bp.length (Cj cf (.agg #[.int .i64 0,.int .i64 0,.int .i64 0]) ((eF da db).map vr)) (da.bp.map λx=>msgs da db x db.bp))):=by
  intro n hn;have h:=Li (tv:=.bool true) (z:=.agg #[.int .i64 0,.int .i64 0,.int .i64 0]) (z2:=.bool false) (qv:=false) hne (da.bp.map λx=>msgs da db x db.bp) hn
  rwa [List.length_map,aaD]at h
 have mW:(chain cf cl (.bool true) (.bool false) false da.bp.length (Cj cf (.agg #[.int .i64 0,.int .i64 0,.int .i64 0]) ((eF da db).map vr)) (da.bp.map λx=>msgs da db x db.bp)).live:=by obtain⟨x,y,h⟩:=LV (cf:=cf) (cl:=cl) (tv:=.bool true) (z2:=.bool false) (qv:=false) da.bp.length (Cj cf (.agg #[.int .i64 0,.int .i64 0,.int .i64 0]) ((eF da db).map vr)) (da.bp.map λx=>msgs da db x db.bp);rw[h];exact⟨ab,ab,ab⟩
 refine Xt hP (Cs:=λc=>c=cf\/c=cl) (S:=(Shr w1 cf cl).1) (O:=(Shr w1 cf cl).2) mW (λb h=>h.elim) (λb h=>h.elim (·.1) (·.elim)) (λc hc=>?_) hW
  (aab hP wj AV hS ⟨(ha.kept hkr).shr Ue Ud,(hb.kept hkr).shr Ue Ud,(hkr.sees hb5).shr Ue Ud,(hkr.sees hb6).shr Ue Ud⟩ u (λγ' a' w' hE=>yd (hT _ _ _ γ' a' w' hE) ?_))
 rcases hc with rfl|rfl;exact⟨⟨0,false,Ue.2⟩,λh=>h.2.1 rfl,λh=>h⟩;exact⟨⟨0,false,Ud.2⟩,λh=>h.2.2 rfl,λh=>h⟩;rintro _ e a3 w3 ⟨rfl,hd,hold,dO⟩;exact⟨(γ.1,λb=>γ.2 b\/(w.heap.size<=b/\b<w3.heap.size)),hd,a3.tmps.getD 4 undef,resultsC_tmp Tryz.results64 _,rfl,
  ⟨rfl,λ_ h=>.inl h,λb hb hlt=>hold.1 b ⟨hb,hlt⟩,hold.2.1,hold.2.2⟩,⟨dO,λb hb=>.inr (dO.lt b hb)⟩⟩
end Go.Co
namespace Go.Proofs
open Go.Shelf Go.RowKit Go.Lib Go.Sort
def Tryz.IM:Go.Shelf.Ren:=⟨λ|6=>102|15=>99|14=>136|28=>134|29=>135|20=>149|21=>150|22=>151|23=>152|24=>153|25=>154|26=>155|27=>156|46=>165|47=>145|48=>146|49=>166|50=>167|57=>173|n=>n,λ|22=>56|24=>79|25=>173|3=>3|39=>144|0=>0|53=>218|55=>84|4=>4|46=>211|45=>210|50=>215|5=>5|9=>9|66=>226|70=>229|76=>238|77=>239|n=>n,λ|n=>n⟩
theorem Tryz.Kc:Go.Proofs.SlLaysF0.n6 Tryz.prog Tryz.IM:={
 mixed:=by kernel_rfl
 f6:=⟨Tryz.f102.name,ae,Tryz.func102.trans (congrArg some (by kernel_rfl))⟩
 f14:=⟨Tryz.f136.name,ae,Tryz.func136.trans (congrArg some (by kernel_rfl))⟩
 f15:=Tryz.func99.trans (congrArg some (by kernel_rfl))
 f20:=⟨Tryz.f149.name,ae,Tryz.func149.trans (congrArg some (by kernel_rfl))⟩
 f21:=⟨Tryz.f150.name,ae,Tryz.func150.trans (congrArg some (by kernel_rfl))⟩
 f22:=⟨Tryz.f151.name,ae,Tryz.func151.trans (congrArg some (by kernel_rfl))⟩
 f23:=⟨Tryz.f152.name,ae,Tryz.func152.trans (congrArg some (by kernel_rfl))⟩
 f24:=⟨Tryz.f153.name,ae,Tryz.func153.trans (congrArg some (by kernel_rfl))⟩
 f25:=⟨Tryz.f154.name,ae,Tryz.func154.trans (congrArg some (by kernel_rfl))⟩
 f26:=⟨Tryz.f155.name,ae,Tryz.func155.trans (congrArg some (by kernel_rfl))⟩
 f27:=⟨Tryz.f156.name,ae,Tryz.func156.trans (congrArg some (by kernel_rfl))⟩
 f28:=Tryz.func134.trans (congrArg some (by kernel_rfl))
 f29:=Tryz.func135.trans (congrArg some (by kernel_rfl))
 f46:=⟨Tryz.f165.name,ae,Tryz.func165.trans (congrArg some (by kernel_rfl))⟩
 f47:=Tryz.func145.trans (congrArg some (by kernel_rfl))
 f48:=Tryz.func146.trans (congrArg some (by kernel_rfl))
 f49:=⟨Tryz.f166.name,ae,Tryz.func166.trans (congrArg some (by kernel_rfl))⟩
 f50:=⟨Tryz.f167.name,ae,Tryz.func167.trans (congrArg some (by kernel_rfl))⟩
 f57:=⟨Tryz.f173.name,ae,Tryz.func173.trans (congrArg some (by kernel_rfl))⟩
 t0:=Tryz.underlying0
 a0:=Tryz.isAgg0
 z0:=Tryz.sizeOf0
 v0:=Tryz.zeroValue0
 t3:=Tryz.underlying3
 a3:=Tryz.isAgg3
 z3:=Tryz.sizeOf3
 v3:=Tryz.zeroValue3
 t4:=Tryz.underlying4
 a4:=Tryz.isAgg4
 z4:=Tryz.sizeOf4
 v4:=Tryz.zeroValue4
 t5:=Tryz.underlying5
 a5:=Tryz.isAgg5
 z5:=Tryz.sizeOf5
 v5:=Tryz.zeroValue5
 t9:=Tryz.underlying9
 a9:=Tryz.isAgg9
 z9:=Tryz.sizeOf9
 v9:=Tryz.zeroValue9
 t22:=Tryz.underlying56
 a22:=Tryz.isAgg56
 z22:=Tryz.sizeOf56
 v22:=Tryz.zeroValue56
 t25:=Tryz.underlying173
 a25:=Tryz.isAgg173
 z25:=Tryz.sizeOf173
 v25:=Tryz.zeroValue173
 t39:=Tryz.underlying144
 a39:=Tryz.isAgg144
 z39:=Tryz.sizeOf144
 v39:=Tryz.zeroValue144
 t45:=Tryz.underlying210
 a45:=Tryz.isAgg210
 z45:=Tryz.sizeOf210
 v45:=Tryz.zeroValue210
 t46:=Tryz.underlying211
 a46:=Tryz.isAgg211
 z46:=Tryz.sizeOf211
 v46:=Tryz.zeroValue211
 t50:=Tryz.underlying215
 a50:=Tryz.isAgg215
 z50:=Tryz.sizeOf215
 v50:=Tryz.zeroValue215
 t53:=Tryz.underlying218
 a53:=Tryz.isAgg218
 z53:=Tryz.sizeOf218
 v53:=Tryz.zeroValue218
 t55:=Tryz.underlying84
 a55:=Tryz.isAgg84
 z55:=Tryz.sizeOf84
 v55:=Tryz.zeroValue84
 t66:=Tryz.underlying226
 a66:=Tryz.isAgg226
 z66:=Tryz.sizeOf226
 v66:=Tryz.zeroValue226
 t70:=Tryz.underlying229
 a70:=Tryz.isAgg229
 z70:=Tryz.sizeOf229
 v70:=Tryz.zeroValue229
 t76:=Tryz.underlying238
 a76:=Tryz.isAgg238
 z76:=Tryz.sizeOf238
 v76:=Tryz.zeroValue238
 t77:=Tryz.underlying239
 a77:=Tryz.isAgg239
 z77:=Tryz.sizeOf239
 v77:=Tryz.zeroValue239}
def Tryz.Ob:Go.Shelf.Ren:=⟨λ|5=>105|7=>137|n=>n,λ|22=>3|3=>3|4=>4|n=>n,λ|n=>n⟩
theorem Tryz.ad3:Go.Proofs.SlLaysC2.n5 Tryz.prog Tryz.Ob:={
 mixed:=by kernel_rfl
 f5:=⟨Tryz.f105.name,ae,Tryz.func105.trans (congrArg some (by kernel_rfl))⟩
 f7:=⟨Tryz.f137.name,ae,Tryz.func137.trans (congrArg some (by kernel_rfl))⟩
 t3:=Tryz.underlying3
 a3:=Tryz.isAgg3
 z3:=Tryz.sizeOf3
 v3:=Tryz.zeroValue3
 t4:=Tryz.underlying4
 a4:=Tryz.isAgg4
 z4:=Tryz.sizeOf4
 v4:=Tryz.zeroValue4
 t22:=Tryz.underlying3
 a22:=Tryz.isAgg3
 z22:=Tryz.sizeOf3
 v22:=Tryz.zeroValue3}
theorem Tryz.agJ (x y:Int)(w:World):Calls Tryz.prog 105 #[.int .i64 x,.int .i64 y] w λe w'=>e=.returned (.int .i64 (Lib.compareInt x y))/\w'=w:=by have h:=AnyG.cmp_Compare_int Tryz.ad3 x y w;exact h
def Yp(a b c:Int):Int:=if a=0 then if b=0 then c else b else a
theorem Tryz.aha (a b c:Int)(n:Nat)(w:World)(h0:w.cell? ⟨n,0,none⟩=some (.int .i64 a))(h1:w.cell? ⟨n,1,none⟩=some (.int .i64 b))(h2:w.cell? ⟨n,2,none⟩=some (.int .i64 c)):
  Calls Tryz.prog 104 #[.slice (some ⟨n,0,none⟩) 3 3] w λe w'=>e=.returned (.int .i64 (Yp a b c))/\w'=w:=by
 have hr:(a≠0->Yp a b c=a)/\(a=0->b≠0->Yp a b c=b)/\(a=0->b=0->Yp a b c=c):=by
  refine⟨λh=>if_neg h,λh h'=>?_,λh h'=>?_⟩;unfold Yp;rw[if_pos h,if_neg h']
  unfold Yp;rw[if_pos h,if_pos h']
 generalize Yp a b c=r at hr⊢
 go_enter Tryz.func104,Tryz.ntmps104
 go_wp2
 go_loop [5,8] (λ_ i=>∃k:Nat,k<=3/\i=.int .i64 k/\(1<=k->a=0)/\(2<=k->b=0)/\(3<=k->c=0)) (λ_ i=>3-(intOf i).toNat)
 case atStart=>exact⟨0,U,rfl,U,U,U⟩
 case round=>
  obtain⟨k,hk,rfl,ha,hb,hc⟩:=hrel;have adT:k=0\/k=1\/k=2\/k=3:=U
  rcases adT with rfl|rfl|rfl|rfl
  .clear ha hb hc;by_cases hz:a=0
   .subst hz
    go_wp2
    go_round
    case rel=>exact⟨1,U,by go_num,ab,U,U⟩
    case measure=>simp[intOf]
   have hra:=hr.1 hz;clear hr;subst hra
   go_wp2
   go_ret
   exact⟨rfl,rfl⟩
  .have ha:=ha U;subst ha;clear hb hc h0;by_cases hz:b=0
   .subst hz
    go_wp2
    go_round
    case rel=>exact⟨2,U,by go_num,ab,ab,U⟩
    case measure=>simp[intOf]
   have hra:=hr.2.1 rfl hz;clear hr;subst hra
   go_wp2
   go_ret
   exact⟨rfl,rfl⟩
  .have ha:=ha U;have hb:=hb U;subst ha;subst hb;clear hc h0 h1;by_cases hz:c=0
   .subst hz
    go_wp2
    go_round
    case rel=>exact⟨3,U,by go_num,ab,ab,ab⟩
    case measure=>simp[intOf]
   have hra:=hr.2.2 rfl rfl;clear hr;subst hra
   go_wp2
   go_ret
   exact⟨rfl,rfl⟩
  have ha:=ha U;have hb:=hb U;have hc:=hc U;have hra:=hr.2.2 ha hb;subst ha;subst hb;subst hc;clear hr h0 h1 h2;subst hra
  go_wp2
  go_ret
  exact⟨rfl,rfl⟩
def xS(x y:Int×Int×Int):Int:=Yp (Lib.compareInt x.1 y.1) (Lib.compareInt x.2.1 y.2.1) (Lib.compareInt x.2.2 y.2.2)
theorem Tryz.SH (x y:Int×Int×Int)(W:World):Calls Tryz.prog 103 #[.agg #[.int .i64 x.1,.int .i64 x.2.1,.int .i64 x.2.2],.agg #[.int .i64 y.1,.int .i64 y.2.1,.int .i64 y.2.2]] W λe w'=>e=.returned (.int .i64 (xS x y))/\∃q os',w'=grow (W.drewN q) os':=by
 obtain⟨x1,x2,x3⟩:=x;obtain⟨y1,y2,y3⟩:=y;have QH:=Tryz.agJ;unfold xS;simp only;have hA:=QH x1 y1;have hB:=QH x2 y2;have hC:=QH x3 y3;clear QH;generalize Lib.compareInt x1 y1=A at*;generalize Lib.compareInt x2 y2=B at*;generalize Lib.compareInt x3 y3=C at*
 go_enter Tryz.func103,Tryz.ntmps103
 go_wp2
 refine wp_region_still_tail 15 (by kernel_rfl) (by kernel_rfl) ?_;simp only[List.take_succ_cons,List.take_zero,List.drop_succ_cons,pS];have a1:((W.alloc (.cells #[.int .i64 x1,.int .i64 x2,.int .i64 x3] 79)).alloc (.cells #[.int .i64 y1,.int .i64 y2,.int .i64 y3] 79)).drew.cell? ⟨W.heap.size,0,none⟩=some (.int .i64 x1):=by refine(World.cell?_alloc_lt _ _ _ ab).trans ?_;rw[World.cell?_alloc_new];rfl
 have a2:((W.alloc (.cells #[.int .i64 x1,.int .i64 x2,.int .i64 x3] 79)).alloc (.cells #[.int .i64 y1,.int .i64 y2,.int .i64 y3] 79)).drew.cell? ⟨W.heap.size,1,none⟩=some (.int .i64 x2):=by refine(World.cell?_alloc_lt _ _ _ ab).trans ?_;rw[World.cell?_alloc_new];rfl
 have a3:((W.alloc (.cells #[.int .i64 x1,.int .i64 x2,.int .i64 x3] 79)).alloc (.cells #[.int .i64 y1,.int .i64 y2,.int .i64 y3] 79)).drew.cell? ⟨W.heap.size,2,none⟩=some (.int .i64 x3):=by refine(World.cell?_alloc_lt _ _ _ ab).trans ?_;rw[World.cell?_alloc_new];rfl
 have b1:((W.alloc (.cells #[.int .i64 x1,.int .i64 x2,.int .i64 x3] 79)).alloc (.cells #[.int .i64 y1,.int .i64 y2,.int .i64 y3] 79)).drew.cell? ⟨W.heap.size+1,0,none⟩=some (.int .i64 y1):=by have h:=World.cell?_alloc_new (W.alloc (.cells #[.int .i64 x1,.int .i64 x2,.int .i64 x3] 79)) #[.int .i64 y1,.int .i64 y2,.int .i64 y3] 79 0;rw[show(W.alloc (.cells #[.int .i64 x1,.int .i64 x2,.int .i64 x3] 79)).heap.size=W.heap.size+1 by simp]at h;exact h.trans rfl
 have b2:((W.alloc (.cells #[.int .i64 x1,.int .i64 x2,.int .i64 x3] 79)).alloc (.cells #[.int .i64 y1,.int .i64 y2,.int .i64 y3] 79)).drew.cell? ⟨W.heap.size+1,1,none⟩=some (.int .i64 y2):=by have h:=World.cell?_alloc_new (W.alloc (.cells #[.int .i64 x1,.int .i64 x2,.int .i64 x3] 79)) #[.int .i64 y1,.int .i64 y2,.int .i64 y3] 79 1;rw[show(W.alloc (.cells #[.int .i64 x1,.int .i64 x2,.int .i64 x3] 79)).heap.size=W.heap.size+1 by simp]at h;exact h.trans rfl
 have b3:((W.alloc (.cells #[.int .i64 x1,.int .i64 x2,.int .i64 x3] 79)).alloc (.cells #[.int .i64 y1,.int .i64 y2,.int .i64 y3] 79)).drew.cell? ⟨W.heap.size+1,2,none⟩=some (.int .i64 y3):=by have h:=World.cell?_alloc_new (W.alloc (.cells #[.int .i64 x1,.int .i64 x2,.int .i64 x3] 79)) #[.int .i64 y1,.int .i64 y2,.int .i64 y3] 79 2;rw[show(W.alloc (.cells #[.int .i64 x1,.int .i64 x2,.int .i64 x3] 79)).heap.size=W.heap.size+1 by simp]at h;exact h.trans rfl
 have hg:((W.alloc (.cells #[.int .i64 x1,.int .i64 x2,.int .i64 x3] 79)).alloc (.cells #[.int .i64 y1,.int .i64 y2,.int .i64 y3] 79)).drew=grow (W.drewN 1) (#[.cells #[.int .i64 x1,.int .i64 x2,.int .i64 x3] 79]++#[.cells #[.int .i64 y1,.int .i64 y2,.int .i64 y3] 79]):=by rw[alloc_eq_grow,alloc_eq_grow,grow_grow];rfl
 change wpStill _ _ ((W.alloc (.cells #[.int .i64 x1,.int .i64 x2,.int .i64 x3] 79)).alloc (.cells #[.int .i64 y1,.int .i64 y2,.int .i64 y3] 79)).drew (λa'=>wpList _ _ _ _ a' ((W.alloc (.cells #[.int .i64 x1,.int .i64 x2,.int .i64 x3] 79)).alloc (.cells #[.int .i64 y1,.int .i64 y2,.int .i64 y3] 79)).drew) _ _;generalize((W.alloc (.cells #[.int .i64 x1,.int .i64 x2,.int .i64 x3] 79)).alloc (.cells #[.int .i64 y1,.int .i64 y2,.int .i64 y3] 79)).drew=W2 at*;have HG:=Lib.hid hg;clear hg;repeat still_step
 still_call (hA _)
 repeat still_step
 still_call (hB _)
 repeat still_step
 still_call (hC _)
 repeat still_step
 refine wpStill_nil ?_;clear a1 a2 a3 b1 b2 b3 hA hB hC;have c0:(W2.alloc (.cells #[.int .i64 A,.int .i64 B,.int .i64 C] 3)).cell? ⟨W2.heap.size,0,none⟩=some (.int .i64 A):=by rw[World.cell?_alloc_new];rfl
 have c1:(W2.alloc (.cells #[.int .i64 A,.int .i64 B,.int .i64 C] 3)).cell? ⟨W2.heap.size,1,none⟩=some (.int .i64 B):=by rw[World.cell?_alloc_new];rfl
 have c2:(W2.alloc (.cells #[.int .i64 A,.int .i64 B,.int .i64 C] 3)).cell? ⟨W2.heap.size,2,none⟩=some (.int .i64 C):=by rw[World.cell?_alloc_new];rfl
 have hor:=Tryz.aha A B C W2.heap.size _ c0 c1 c2;clear c0 c1 c2
 go_wp2_with (go_at_call 104;refine hor.mono ?_;rintro e w' ⟨rfl,rfl⟩)
 go_ret
 have o8:∃q os',W2.alloc (.cells #[.int .i64 A,.int .i64 B,.int .i64 C] 3)=grow (W.drewN q) os':=
  ⟨1,(#[.cells #[.int .i64 x1,.int .i64 x2,.int .i64 x3] 79]++#[.cells #[.int .i64 y1,.int .i64 y2,.int .i64 y3] 79])++#[.cells #[.int .i64 A,.int .i64 B,.int .i64 C] 3],by rw[alloc_eq_grow,HG.out,grow_grow]⟩
 exact⟨rfl,o8⟩
end Go.Proofs
namespace Go.Co
open Go Go.Conc Go.Proofs Go.Sort Go.Shelf
def SN(x y:Sm):Prop:=x.1<y.1\/(x.1=y.1/\(x.2.1<y.2.1\/(x.2.1=y.2.1/\x.2.2<y.2.2)))
theorem AH(x y:Int):(x<y/\Lib.compareInt x y=-1)\/(x=y/\Lib.compareInt x y=0)\/(y<x/\Lib.compareInt x y=1):=by
 unfold Lib.compareInt;by_cases h1:x<y
 grind
 grind
theorem lt_iff(x y:Sm):ltOf xS x y=true↔SN x y:=by obtain⟨x1,x2,x3⟩:=x;obtain⟨y1,y2,y3⟩:=y;unfold ltOf xS Yp SN;simp only[bP];rcases AH x1 y1 with ⟨h1,e1⟩|⟨h1,e1⟩|⟨h1,e1⟩<;>rcases AH x2 y2 with ⟨h2,e2⟩|⟨h2,e2⟩|⟨h2,e2⟩<;>rcases AH x3 y3 with ⟨h3,e3⟩|⟨h3,e3⟩|⟨h3,e3⟩<;>simp[e1,e2,e3]<;>omega
theorem DT(x y:Sm):ltOf xS x y=false↔¬SN x y:=by rw[<-lt_iff];simp
theorem ae8:SWO (ltOf xS) where
 irrefl x:=by rw[DT];unfold SN;omega
 trans x y z h1 h2:=by rw[lt_iff]at*;unfold SN at*;omega
 ntrans x y z h1 h2:=by rw[DT]at*;unfold SN at*;omega
theorem Q7{d:Array Sm}{R:List Sm}(hp:d.toList.Perm R)(hs:SortedIn (ltOf xS) 0 d.size d)(hR:R.Pairwise SN):d.toList=R:=by
 refine List.Perm.eq_of_pairwise (le:=λx y=>¬SN y x) (λa b _ _ h1 h2=>?_) ?_ (hR.imp λ{a b} h=>?_) hp;obtain⟨a1,a2,a3⟩:=a;obtain⟨b1,b2,b3⟩:=b;unfold SN at h1 h2;simp only at h1 h2;have e1:a1=b1:=U
 have e2:a2=b2:=U
 have e3:a3=b3:=U
 rw[e1,e2,e3];rw[List.pairwise_iff_getElem];intro i j hi hj YC;have h:=hs i j (gU _) YC (by simpa using hj);rw[DT]at h;simp only[eB]at hi hj;rw[rK d i hi,rK d j hj]at h;simpa using h;unfold SN at*;omega
def Yg(l:br):Prop:=l.Pairwise (·<·)
theorem Nl(low up:br)(cO:Int):Yg (rF low up cO):=by unfold Yg rF To;refine List.Pairwise.filter _ ?_;rw[List.pairwise_map];exact List.pairwise_lt_range.imp λ{a b} h=>U
theorem Ra{da db:Wk}(ha:Yg da.bp)(hb:Yg db.bp):(eF da db).Pairwise SN:=by unfold eF;rw[List.pairwise_flatMap];refine⟨λx _=>?_,ha.imp λ{x x'} h=>?_⟩;rw[List.pairwise_flatMap];refine⟨λy _=>?_,hb.imp λ{y y'} h=>?_⟩;rw[List.pairwise_map];exact(Nl _ _ _).imp λ{s s'} h=>.inr ⟨rfl,.inr ⟨rfl,h⟩⟩;intro m hm m' Jo;obtain⟨s,_,rfl⟩:=eO.1 hm;obtain⟨s',_,rfl⟩:=eO.1 Jo;exact .inr ⟨rfl,.inl h⟩;intro m hm m' Jo;obtain⟨y,_,hm⟩:=IF.1 hm;obtain⟨y',_,Jo⟩:=IF.1 Jo;obtain⟨s,_,rfl⟩:=eO.1 hm;obtain⟨s',_,rfl⟩:=eO.1 Jo;exact .inl h
theorem GL(d:Array Sm):(flatK qZ 3 d).toList=d.toList.flatMap qZ:=by
 apply mG;intro t;have hlen:(d.toList.flatMap qZ).length=d.size*3:=by rw[Ic];simp
 by_cases ht:t<d.size*3;have h1:=get_flatK qZ 3 d t ht;rw[rK _ t (by simpa using ht)]at h1;rw[jx,bX (by simpa using ht),h1];have key:∀(l:List Sm)(t:Nat),t<l.length*3->(l.flatMap qZ)[t]? =some ((qZ (l[t/3]!))[t % 3]!):=by
  intro l;induction l with
  |nil=>intro t h;simp at h
  |cons m l ih=>
   intro t h;rw[de];by_cases h3:t<3;have e0:t/3=0:=U
   have e1:t % 3=t:=U
   rw[e0,e1,eC (by simpa [qZ]using h3)];have:t=0\/t=1\/t=2:=U
   rcases this with rfl|rfl|rfl<;>rfl;obtain⟨s,rfl⟩:∃s,t=s+3:=⟨t-3,U⟩;have e0:(s+3)/3=s/3+1:=U
   have e1:(s+3) % 3=s % 3:=U
   rw[e0,e1,fP (by simp[qZ])];have:=ih s (by simp at h;omega);simpa [qZ]using this
 rw[key d.toList t (by simpa using ht)];congr 3;have hd:t/3<d.size:=U
 rw[rK d _ hd,rK d.toList _ (by simpa using hd)];simp;rw[pZ (by simp;omega),pZ U]
theorem NW{w:World}{g:Nat}{cur:Array Value}{e:TypeId}{d:Array Sm}(hb:w.heap[g]? =some (.cells cur e (0,0)))(ht:cur.toList.take (d.size*3)=d.toList.flatMap qZ):HoldsK qZ 3 w g 0 d:=by
 intro j hj;rw[size_flatK]at hj;refine⟨?_,by simp[World.frozen?,hb]⟩;have h1:(cur.toList.take (d.size*3))[j]? =(flatK qZ 3 d).toList[j]? :=by rw[ht,GL]
 rw[List.getElem?_take_of_lt hj]at h1;simp only[World.cell?,hb,eN];simp only[Option.isSome_none,aJ,if_false];rw[<-jx,h1,jx,bX (by simpa using hj),rK _ j (by simpa using hj)];rfl
theorem Sy{w:World}{g n:Nat}{os:Array Obj}{cur:Array Value}{e:TypeId}{fr:Nat×Nat}(d:Array Sm)(hb:w.heap[g]? =some (.cells cur e fr)):
  (sortWorldK qZ 3 w g 0 n d os).heap[g]? =some (.cells (putCells id 0 (flatK qZ 3 d) cur) e fr):=by
 have hg:g<w.heap.size:=(aG.1 hb).1;unfold sortWorldK putRowK;rw[heap_grow_old _ _ (by simpa using hg)];simp[putRow,mapBlock,Sort.ahead,Array.getElem?_modify,hb,onCells]
theorem I6{w:World}{g n:Nat}{os:Array Obj}(d:Array Sm):w.grownBy (sortWorldK qZ 3 w g 0 n d os) (some g):=by unfold sortWorldK putRowK;refine⟨rfl,rfl,rfl,ab,λk hk hne=>?_⟩;rw[heap_grow_old _ _ (by simpa using hk)];have:g≠k:=λe=>hne (by rw[e]);simp[putRow,mapBlock,Sort.ahead,Array.getElem?_modify,this]
theorem IY{w:World}{base g cap n:Nat}{e:TypeId}{os:Array Obj}{cur:Array Value}{d:Array Sm}(tn:base<=g)(hb:w.heap[g]? =some (.cells cur e (0,0)))
  (h1:d.size<=cap) (h2:cap<=maxLen) (h3:cur.size=cap*3):
  (sortWorldK qZ 3 w g 0 n d os).ownsRow base e 3 (.slice (some ⟨g,0,none⟩) d.size cap) d.size (d.toList.flatMap qZ):=by
 refine⟨by rw[Ic];simp,.inr ⟨g,cap,_,rfl,tn,Sy d hb,h1,h2,by simp[putCells,h3],?_⟩⟩;rw[<-GL];apply mG;intro j;by_cases hj:j<d.size*3;rw[List.getElem?_take_of_lt hj,jx,jx];have hc:j<cur.size:=U
 simp[putCells,hj,hc];rw[List.getElem?_take_eq_none U,pZ (by simp;omega)]
end Go.Co
namespace Go.Co
open Go
variable {P:Program}
instance (h:Value):TC P (Extern.Rtype.ofHandle h):=⟨by
 unfold Extern.Rtype.ofHandle
 exact bU⟩
instance (t:TypeId):TC P (Extern.Rtype.handle t):=⟨by
 unfold Extern.Rtype.handle
 exact bU⟩
instance (s:String) (t:TypeId):TC P (Extern.Rtype.noPack s t):=⟨by
 unfold Extern.Rtype.noPack
 exact bU⟩
instance (s:String) (t:TypeId):TC P (Extern.Rtype.noPackHeld s t):=⟨by
 unfold Extern.Rtype.noPackHeld
 exact bU⟩
instance (s:String) (t:TypeId):TC P (Extern.Rtype.noPackNamed s t):=⟨by
 unfold Extern.Rtype.noPackNamed
 exact bU⟩
instance (s:String) (t:TypeId):TC P (Extern.Rtype.noPackMethods s t):=⟨by
 unfold Extern.Rtype.noPackMethods
 exact bU⟩
instance (t:TypeId):TC P (Extern.Rtype.spelt t):=⟨by
 unfold Extern.Rtype.spelt
 exact bU⟩
instance (t:TypeId):TC P (Extern.Rtype.under t):=⟨by
 unfold Extern.Rtype.under
 exact bU⟩
instance (t:TypeId):TC P (Extern.Rtype.kind t):=⟨by
 unfold Extern.Rtype.kind
 exact bU⟩
instance (t:TypeId):TC P (Extern.Rtype.hasName t):=⟨by
 unfold Extern.Rtype.hasName
 exact bU⟩
instance (t:TypeId):TC P (Extern.Rtype.elem? t):=⟨by
 unfold Extern.Rtype.elem?
 exact bU⟩
instance (t u:TypeId):TC P (Extern.Rtype.implements t u):=⟨by
 unfold Extern.Rtype.implements
 exact bU⟩
instance (t u:TypeId):TC P (Extern.Rtype.directlyAssignable t u):=⟨by
 unfold Extern.Rtype.directlyAssignable
 exact bU⟩
instance (t:TypeId):TC P (Extern.ReflectliteType.toType t):=⟨by
 unfold Extern.ReflectliteType.toType
 exact bU⟩
instance (v:Value):TC P (Extern.ReflectliteType.ofRtype v):=⟨by
 unfold Extern.ReflectliteType.ofRtype
 cases v<;>try exact ak _
 rename_i cs
 rcases cs with ⟨_|⟨x,_|⟨y,l⟩⟩⟩<;>try exact ak _
 refine aA TC.out λ_=>?_
 exact bU⟩
instance (t:TypeId):TC P (Extern.ReflectliteType.elem t):=⟨by
 unfold Extern.ReflectliteType.elem
 exact bU⟩
instance (t:TypeId):TC P (Extern.ReflectliteType.name t):=⟨by
 unfold Extern.ReflectliteType.name
 exact bU⟩
instance (t:TypeId):TC P (Extern.ReflectliteType.pkgPath t):=⟨by
 unfold Extern.ReflectliteType.pkgPath
 exact bU⟩
instance (t u:TypeId):TC P (Extern.ReflectliteType.implements_ t u):=⟨by
 unfold Extern.ReflectliteType.implements_
 exact bU⟩
instance (t u:TypeId):TC P (Extern.ReflectliteType.assignableTo t u):=⟨by
 unfold Extern.ReflectliteType.assignableTo
 exact bU⟩
instance (a:Array Value):TC P (Extern.ReflectliteType.typeOf a):=⟨by
 unfold Extern.ReflectliteType.typeOf
 rcases a with ⟨_|⟨x,_|⟨y,l⟩⟩⟩
 .exact ak _
 rotate_left
 .exact ak _
 cases x<;>try exact ak _
 all_goals first|exact(TC.out:T1 P (pure Value.nilIface))|exact(TC.out:T1 P (Extern.ReflectliteType.toType _))⟩
theorem t_rmeth{f:TypeId->Sem Value}(h:∀t,T1 P (f t))(a:Array Value):T1 P (Extern.ReflectliteType.method f a):=by
 unfold Extern.ReflectliteType.method;rcases a with ⟨_|⟨x,_|⟨y,l⟩⟩⟩;exact ak _
 rotate_left
 exact ak _;exact aA TC.out λt=>h t
theorem t_rabi{f:TypeId->Sem Value}(h:∀t,T1 P (f t))(a:Array Value):T1 P (Extern.ReflectliteType.abiMethod f a):=by
 unfold Extern.ReflectliteType.abiMethod;rcases a with ⟨_|⟨x,_|⟨y,l⟩⟩⟩;exact ak _
 rotate_left
 exact ak _;exact aA TC.out λt=>aA TC.out λ_=>h t
theorem t_rrel{s:String}{f:TypeId->TypeId->Sem Bool}(h:∀t u,T1 P (f t u))(a:Array Value):T1 P (Extern.ReflectliteType.relation s f a):=by
 unfold Extern.ReflectliteType.relation;rcases a with ⟨_|⟨x,_|⟨y,_|⟨z,l⟩⟩⟩⟩;exact ak _;exact ak _
 rotate_left
 exact ak _;cases y<;>try exact ak _
 exact aA TC.out λt=>aA TC.out λu=>aA (h _ _) λ_=>TC.out;exact t_panicString _
instance (t:TypeId) (a:Addr) (n:Nat):TC P (Extern.ReflectliteValue.mk t a n):=⟨by
 unfold Extern.ReflectliteValue.mk
 exact bU⟩
instance (v:Value):TC P (Extern.ReflectliteValue.unpack v):=⟨by
 unfold Extern.ReflectliteValue.unpack
 exact bU⟩
instance {α:Type} (s:String) (k:Nat):TC P (Extern.ReflectliteValue.valueError s k:Sem α):=⟨by
 unfold Extern.ReflectliteValue.valueError
 exact bU⟩
instance (v:Value):TC P (Extern.ReflectliteValue.partsAny v):=⟨by
 unfold Extern.ReflectliteValue.partsAny
 cases v<;>try exact ak _
 rename_i cs
 rcases cs with ⟨_|⟨x,_|⟨y,_|⟨z,_|⟨u,l⟩⟩⟩⟩⟩<;>try exact ak _
 cases z
 case int k n=>
  cases k
  case u64=>
   rcases n with (_|n)|n<;>cases y<;>first|exact ak _|exact(TC.out:T1 P (pure none))|(rename_i p;cases p<;>first|exact ak _|exact(aA TC.out λ_=>TC.out))
  all_goals (cases y<;>first|exact ak _|(rename_i p;cases p<;>exact ak _))
 all_goals (cases y<;>first|exact ak _|(rename_i p;cases p<;>exact ak _))⟩
instance (v:Value):TC P (Extern.ReflectliteValue.parts v):=⟨by
 unfold Extern.ReflectliteValue.parts
 exact bU⟩
theorem t_vmeth{z:Sem Value}{f:TypeId->Addr->Nat->Nat->Sem Value}(hz:T1 P z)(h:∀t a m n,T1 P (f t a m n))(a:Array Value):T1 P (Extern.ReflectliteValue.method z f a):=by
 unfold Extern.ReflectliteValue.method;rcases a with ⟨_|⟨x,_|⟨y,l⟩⟩⟩;exact ak _
 rotate_left
 exact ak _;refine aA TC.out λo=>?_;split;exact hz;exact h _ _ _ _
theorem t_vany{z:Sem Value}{f:TypeId->Addr->Nat->Nat->Sem Value}(hz:T1 P z)(h:∀t a m n,T1 P (f t a m n))(a:Array Value):T1 P (Extern.ReflectliteValue.methodAny z f a):=by
 unfold Extern.ReflectliteValue.methodAny;rcases a with ⟨_|⟨x,_|⟨y,l⟩⟩⟩;exact ak _
 rotate_left
 exact ak _;refine aA TC.out λo=>?_;split;exact hz;exact h _ _ _ _
instance (t:TypeId) (a:Addr) (m n:Nat):TC P (Extern.ReflectliteValue.isNil t a m n):=⟨by
 unfold Extern.ReflectliteValue.isNil
 exact bU⟩
instance (t:TypeId) (a:Addr) (m n:Nat):TC P (Extern.ReflectliteValue.elem t a m n):=⟨by
 unfold Extern.ReflectliteValue.elem
 exact bU⟩
instance (a:Array Value):TC P (Extern.ReflectliteValue.set a):=⟨by
 unfold Extern.ReflectliteValue.set
 rcases a with ⟨_|⟨x,_|⟨y,_|⟨z,l⟩⟩⟩⟩
 .exact ak _
 .exact ak _
 rotate_left
 .exact ak _
 refine aA TC.out λ_=>?_
 exact bU⟩
instance (a:Array Value):TC P (Extern.ReflectliteValue.errorText a):=⟨by
 unfold Extern.ReflectliteValue.errorText
 rcases a with ⟨_|⟨x,_|⟨y,l⟩⟩⟩
 .exact ak _
 rotate_left
 .exact ak _
 cases x<;>try exact ak _
 rename_i p
 cases p
 .exact t_runtimePanic _
 .refine aA TC.out λ_=>?_
  exact bU⟩
instance (a:Addr) (n:Nat) (b:ByteArray):TC P (Extern.Bytes.loadBytes a n b):=⟨by
 induction n generalizing a b with
 |zero=>unfold Extern.Bytes.loadBytes;exact TC.out
 |succ n ih=>
  unfold Extern.Bytes.loadBytes
  exact bU⟩
instance (v:Value):TC P (Extern.Bytes.bytesOf v):=⟨by
 unfold Extern.Bytes.bytesOf
 exact bU⟩
instance (v:Value):TC P (Extern.Bytes.asByte v):=⟨by
 unfold Extern.Bytes.asByte
 exact bU⟩
instance (a:Array Value):TC P (Extern.BytealgCount.count a):=⟨by
 unfold Extern.BytealgCount.count
 rcases a with ⟨_|⟨x,_|⟨y,_|⟨z,l⟩⟩⟩⟩
 .exact ak _
 .exact ak _
 rotate_left
 .exact ak _
 refine aA TC.out λ_=>?_
 exact bU⟩
instance:TC P (Extern.BytealgIndex.maxLen):=⟨by
 unfold Extern.BytealgIndex.maxLen
 exact bU⟩
instance (a:Array Value):TC P (Extern.BytealgIndex.index a):=⟨by
 unfold Extern.BytealgIndex.index
 rcases a with ⟨_|⟨x,_|⟨y,_|⟨z,l⟩⟩⟩⟩
 .exact ak _
 .exact ak _
 rotate_left
 .exact ak _
 refine aA TC.out λ_=>?_
 exact bU⟩
instance (a:Array Value):TC P (Extern.BytealgIndexByte.indexByte a):=⟨by
 unfold Extern.BytealgIndexByte.indexByte
 rcases a with ⟨_|⟨x,_|⟨y,_|⟨z,l⟩⟩⟩⟩
 .exact ak _
 .exact ak _
 rotate_left
 .exact ak _
 refine aA TC.out λ_=>?_
 exact bU⟩
instance (r s:Array TypeId) (a:Array Value):TC P (Extern.BytealgMakeNoZero.makeNoZero r s a):=⟨by
 unfold Extern.BytealgMakeNoZero.makeNoZero
 rcases a with ⟨_|⟨x,_|⟨y,l⟩⟩⟩
 .exact ak _
 rotate_left
 .exact ak _
 cases x<;>try exact ak _
 rename_i k n
 cases k<;>try exact ak _
 rcases s with ⟨_|⟨t,l⟩⟩
 .exact ak _
 .refine aA (TC.out:T1 P (underlying t)) λ_=>?_
  exact bU⟩
instance (a:Array Value):TC P (Extern.AbiNoEscape.same a):=⟨by
 unfold Extern.AbiNoEscape.same
 rcases a with ⟨_|⟨x,_|⟨y,l⟩⟩⟩
 .exact ak _
 rotate_left
 .exact ak _
 exact(TC.out:T1 P (pure x))⟩
end Go.Co
