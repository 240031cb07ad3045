import Derived.Test.YtadeehilamokkaaGreatDoorPk31
import Derived.Conc.SmallLaws
import Derived.Shelf.SlSortCmp.WholeK
import Derived.Shelf.SlicesG.Cmp
import Derived.Shelf.Lay
import Derived.Ground.SlsfProg
import Derived.Ground.SlgcProg
import Derived.WalkKit
import Derived.WalkSpells
import Derived.WalkLawsBesides
import Derived.StillTailTactics
import Derived.Deep.QuietTactic
import Derived.BigQuiet
import Derived.Lib.Hide
import Derived.Test.YtadeehilamokkaaGreatDoorPk20
import GoSem.Extern.Table
set_option maxHeartbeats 2000000
set_option maxRecDepth 100000
namespace Go.Co
open Go Go.Conc Go.Proofs
open Classical
variable {P:Program} {aa:Machine->Trace->Prop} {γ:So} {w:World}
noncomputable def IK:Code:=match si with|.seq _ (.seq _ (.seq _ (.seq _ x)))=>x|_=>.skip
noncomputable def aiz:Code:=match si with|.seq _ (.seq x _)=>x|_=>.skip
noncomputable def aiy:Code:=match si with|.seq _ (.seq _ (.seq x _))=>x|_=>.skip
noncomputable def afT:Code:=match si with|.seq _ (.seq _ (.seq _ (.seq (.seq x _) _)))=>x|_=>.skip
def eG(da db:Wk):List Sm:=da.bz.flatMap λx=>db.bz.flatMap λy=>(gL da db x y).map λs=>(x,y,s)
theorem QI(da db:Wk)(x:Int):∀ys:cj,msgs da db x ys=(ys.flatMap λy=>(gL da db x y).map λs=>(x,y,s)).map vV
 |[]=>rfl
 |y::ys=>by rw[G6,QI da db x ys,dm,eY,vA];rfl
theorem ab3(da db:Wk):(da.bz.map λx=>msgs da db x db.bz).flatten=(eG da db).map vV:=by
 unfold eG;induction da.bz with
 |nil=>rfl
 |cons x l ih=>rw[aZ,List.flatten_cons,ih,dm,eY,QI]
theorem uO{α β:Type}(f:α->List β)(c:Nat):∀l:List α,(∀x∈l,(f x).length<=c)->(l.flatMap f).length<=l.length*c
 |[],_=>ae
 |a::l,h=>by have h1:=h a ae;have h2:=uO f c l λx hx=>h x (by simp[hx]);rw[dm,cL,cT,kL];omega
theorem EP{da db:Wk}(xd:da.ok)(Bu:db.ok):(eG da db).length<=4294967296:=by
 have h1:∀x∈da.bz,(db.bz.flatMap λy=>(gL da db x y).map λs=>(x,y,s)).length<=1000*2001:=by intro x _;refine bt (uO _ 2001 _ λy _=>?_) (gv _ Bu.few);rw[List.length_map];have h2:=(Bu.up y.toNat).1;have h3:=(xd.lo x.toNat).1;exact bt (IZ _ _ _ _) ab
 have h4:=uO _ _ _ h1;have h5:=gv (1000*2001) xd.few;unfold eG;omega
theorem abz(hP:Plain Tryz.prog){b2 b3 b5 b6 cf cl:Nat}{da db:Wk}(xd:da.ok)(Bu:db.ok){A:Nat->Prop}{B0:Nat}{w0:World}(hS:J6 A B0 w0 γ w)(hF:Fx da db b2 b3 b5 b6 cf cl γ w)(u:Nat->Value){Qf:Exit->Act->World->Prop}
  (hT:∀γ' a' w',aer A B0 w0 (eG da db) (.ret,γ') .normal a' w'->KJ (iI Tryz.prog aa) 64 () IK (λ_=>Qf) a' w'):
  KJ (KG Tryz.prog aa true) 64 (chain cf cl (.bool true) (.bool false) false da.bz.length (CP cf (.agg #[.int .i64 0,.int .i64 0,.int .i64 0]) ((eG da db).map vV)) (da.bz.map λx=>msgs da db x db.bz),γ) si (λγ' e a' w'=>γ'.1=.ret/\Qf e a' w') (PL b2 b3 b5 b6 u) w:=by
 have C:=BA (aa:=aa) (main:=true) hP;have ad4:CP cf (.agg #[.int .i64 0,.int .i64 0,.int .i64 0]) ((eG da db).map vV)≠.ret/\CP cf (.agg #[.int .i64 0,.int .i64 0,.int .i64 0]) ((eG da db).map vV)≠.stop:=by obtain⟨q,hq⟩:=vS (cf:=cf) (z:=.agg #[.int .i64 0,.int .i64 0,.int .i64 0]) ((eG da db).map vV);rw[hq];simp
 generalize Ry:CP cf (.agg #[.int .i64 0,.int .i64 0,.int .i64 0]) ((eG da db).map vV)=pc at*;show KJ _ _ _ (.seq agD (.seq aiz (.seq aiy (.seq (.seq afT Wj) IK)))) _ _ _;refine aY C (yP (aeS hP xd Bu hS hF u) ?_);rintro⟨p',γ'⟩ e a' w' ⟨rfl,sY,CO,hF',-,vl,nl,k,u',rfl⟩;simp only at sY CO hF';subst sY;unfold Ku;refine aY C (ct C ?_);refine dO C (v:=?v1) rfl (by rfl) (λw=>run_eq_of λK hK=>?r1) (λw=>?e1) ?h1
 case r1=>go_simp;exact hK
 case e1=>simp[go_sem,Instr.makeFunc]
 try walk_nrm
 show KO _ _ (Pc.go (JX cf cl (.bool false) false da.bz.length) pc,γ') _ _ _ _ _;refine ac0 (d:=call85 b2 b6 b5) (f:=.func 101) (cap:=#[.pointer (some ⟨b2,0,none⟩),.pointer (some ⟨b6,0,none⟩),.pointer (some ⟨b5,0,none⟩)]) rfl (by rfl) (λw=>?_) (λw=>?_) rfl ad4.2 (λ_=>ad4.1) (λw9 r9 w10 r10=>?_) (λw9 r9 w10 r10=>?_);simp[execOp,resolve,Act.eval,call85,Deferred.ofValue];simp[execOp,resolve,Act.eval,Deferred.ofValue];have RD:=((hF'.kept (Kept.rely r9)).give).kept (Kept.rely r10);exact Uc hP xd RD.wa RD.f RD.l;have RD:=((hF'.kept (Kept.rely r9)).give).kept (Kept.rely r10);have hS9:=((CO.kept (Kept.rely r9)).give).kept (Kept.rely r10);have hf9:=RD.f;clear hF' CO RD;try walk_nrm
 refine aS C ?_;co_then;refine aY C (ct C ?_);refine av C ?_;try walk_nrm
 refine aS C ?_;co_then;refine aY C (aY C (ct C ?_));refine qM C ad4.1 (v:=?v21) rfl (by rfl) (λw₁ h₁=>⟨run_eq_of λK hK=>?r21,?e21⟩) ?h21
 case r21=>have hc:=(bF.rely hf9 h₁).2;go_simp;exact hK
 case e21=>have hc:=(bF.rely hf9 h₁).2;intro e he;simp[go_sem,hc]at he;subst he;exact(bF.rely hf9 h₁).JW
 try walk_nrm
 refine aS C ?_;co_then;subst Ry;refine(?_:∀a',(∃u,a'=PN cf (.slice none 0 0) u)->KJ _ _ _ Wj _ a' _) _ (pY rfl);rintro a' ⟨u2,rfl⟩;refine yP (Y7 hP (EP xd Bu) hS9 u2) ?_;rintro⟨p3,γ3⟩ e a3 w3 hE;have he:=hE.1;have hp3:=hE.2.1;simp only at hp3;subst he;subst hp3;refine(?_:KJ (KG Tryz.prog aa true) 64 (.ret,γ3) IK (λγ' e a' w'=>γ'.1=.ret/\Qf e a' w') a3 w3);exact YO (yP (hT γ3 a3 w3 hE) λ_ e a w q=>⟨rfl,q⟩)
end Go.Co
namespace Go.Co
open Go Go.Conc Go.Proofs
open Classical
variable {P:Program} {aa:Machine->Trace->Prop} {γ:So} {w:World}
theorem ahh{fn:FuncId}{c:Code}{a:Act}{Q:Gm->Exit->Act->World->Prop}(h:∀w1,iV γ w w1->KJ (iI P aa) fn () c (λ_ e a w'=>∃γ',Q (.bad,γ') e a w') a w1):KJ (RZ P aa) fn (.bad,γ) c Q a w:=by
 intro b k cs hb hk hc _ w1 r;refine h w1 r b k cs hb hk λ_ e a' w' q=>?_;obtain⟨γ',q⟩:=q;have h:=hc _ _ _ _ q;cases e with
 |normal=>exact h rfl w' (iy _ _)
 |exit id=>obtain⟨k',h1,h2⟩:=h;exact⟨k',h1,h2 rfl w' (iy _ _)⟩
 |ret=>exactλtodo=>h todo rfl w' (iy _ _)
 |goto l=>exact h
 |panic ch=>exact h
 |outgrown=>exact h
structure wP (γ:So) (w:World) (cs:Array Value) (d:Wk):Prop where
 cS:cs[2]? =some (.int .i64 d.cS)
 bz:∃v,cs[3]? =some v/\Ag γ w v d.bz
 up:∀i,i<4->∃v,cs[4+i*2]? =some v/\Ag γ w v (d.up i)
 lo:∀i,i<4->∃v,cs[4+i*2+1]? =some v/\Ag γ w v (d.lo i)
theorem wP.kept {cs:Array Value}{d:Wk}{γ':So}{w':World}(h:wP γ w cs d)(k:Kept γ w γ' w'):wP γ' w' cs d:=
 ⟨h.cS,h.bz.imp λ_ ⟨h1,h2⟩=>⟨h1,k.HT h2⟩,λi hi=>(h.up i hi).imp λ_ ⟨h1,h2⟩=>⟨h1,k.HT h2⟩,λi hi=>(h.lo i hi).imp λ_ ⟨h1,h2⟩=>⟨h1,k.HT h2⟩⟩
theorem wP.boxed {cs:Array Value}{d:Wk}{t:TypeId}(h:wP γ w cs d):ga (γ.more w.heap.size) (w.alloc (.cells cs t)) w.heap.size d:=by have k:=Kept.alloc γ w w.heap.size (.cells cs t);exact⟨bF.fresh rfl h.cS,h.bz.imp λ_ ⟨h1,h2⟩=>⟨bF.fresh rfl h1,k.HT h2⟩,λi hi=>(h.up i hi).imp λ_ ⟨h1,h2⟩=>⟨bF.fresh rfl h1,k.HT h2⟩,λi hi=>(h.lo i hi).imp λ_ ⟨h1,h2⟩=>⟨bF.fresh rfl h1,k.HT h2⟩⟩
def Ch(γ:So)(w:World)(c:Nat):Prop:=γ.all c/\w.heap[c]? =some (.chan 0 #[] false 0 0 false)
theorem Ch.lt {c:Nat}(h:Ch γ w c):c<w.heap.size:=(aG.1 h.2).1
theorem Ch.kept {c:Nat}{γ':So}{w':World}(h:Ch γ w c)(k:Kept γ w γ' w'):Ch γ' w' c:=⟨k.all h.1,(k.blk c h.1 h.lt).trans h.2⟩
def Shr(w:World)(cf cl:Nat):So:=(λb=>b<w.heap.size/\b≠cf/\b≠cl,λ_=>False)
theorem bF.shr {cf cl:Nat}{ad:Addr}{v:Value}(hf:Ch γ w cf)(hl:Ch γ w cl)(h:bF γ w ad v):bF (Shr w cf cl) w ad v:=by
 refine⟨.inl ⟨h.lt,λe=>?_,λe=>?_⟩,h.2⟩;have:=h.2;simp[World.cell?,e,hf.2]at this
 have:=h.2;simp[World.cell?,e,hl.2]at this
theorem Ag.shr {cf cl:Nat}{v:Value}{l:cj}(hf:Ch γ w cf)(hl:Ch γ w cl)(h:Ag γ w v l):Ag (Shr w cf cl) w v l:=by obtain⟨A,cap,rfl,h⟩:=h;exact⟨A,cap,rfl,λi x hx=>by obtain⟨ad,h1,h2⟩:=h i x hx;exact⟨ad,h1,h2.shr hf hl⟩⟩
theorem ga.shr {cf cl b:Nat}{d:Wk}(hf:Ch γ w cf)(hl:Ch γ w cl)(h:ga γ w b d):ga (Shr w cf cl) w b d:=
 ⟨h.cS.shr hf hl,h.bz.imp λ_ ⟨h1,h2⟩=>⟨h1.shr hf hl,h2.shr hf hl⟩,λi hi=>(h.up i hi).imp λ_ ⟨h1,h2⟩=>⟨h1.shr hf hl,h2.shr hf hl⟩,λi hi=>(h.lo i hi).imp λ_ ⟨h1,h2⟩=>⟨h1.shr hf hl,h2.shr hf hl⟩⟩
def Old(A:Nat->Prop)(B0:Nat)(w0 w:World):Prop:=(∀b,A b->w.heap[b]? =w0.heap[b]?)/\B0<=w.heap.size/\w.os=w0.os/\w.output=w0.output
def Xe(aa:Machine->Trace->Prop)(R:List Sm):Prop:=∀A B0 w0 γ' a' w',aer A B0 w0 R (.ret,γ') .normal a' w'->
 KJ (iI Tryz.prog aa) 64 () IK (λ_ e a w=>e=.ret/\a.defers=[]/\Old A B0 w0 w/\w.ownsRow B0 79 3 (a.tmps.getD 4 undef) R.length (R.flatMap rR)) a' w'
theorem abY:(Tryz.prog.info? 170).map (λi=>(i.zero,i.size,i.bytes))=some (some (.chan none),1,8):=by kernel_rfl
theorem abX:(Tryz.prog.info? 171).map (λi=>(i.zero,i.size,i.bytes))=some (some (.chan none),1,8):=by kernel_rfl
theorem Mi(hP:Plain Tryz.prog){ca cb:Array Value}{da db:Wk}(xd:da.ok)(Bu:db.ok)(hva:wP γ w ca da)(hvb:wP γ w cb db)(hT:Xe aa (eG da db)):
  yE (RZ Tryz.prog aa) Tryz.prog (.bad,γ) 64 #[.agg ca,.agg cb] w λγ' v w'=>γ'.1=.bad/\Kept γ w γ'.2 w'/\lG γ'.2 w' w.heap.size 79 3 v (eG da db).length ((eG da db).flatMap rR):=by
 have C:=abV (aa:=aa) hP;have hp:Pc.bad≠Pc.ret:=ae
 obtain⟨i71,h71,-,-,b71⟩:=info_parts NW;obtain⟨i4,h4,-,-,b4⟩:=info_parts ac1;obtain⟨i138,ajM,z138,-,-⟩:=info_parts abY;obtain⟨i139,ajL,z139,-,-⟩:=info_parts abX;refine Eu Tryz.func64 (by rfl) rfl ?_;simp only[Tryz.ntmps64,iT,cT,gr,Nat.reduceAdd,Nat.reduceSub,Array.replicate_succ,Array.replicate_zero,List.push_toArray,List.append_toArray,gu,gM];show KJ _ _ _ (.seq (.region _ _ false) (.seq (.region _ _ false) (.seq (.region _ _ false) si))) _ _ _;refine aY C (ct C ?_);refine qN C hp (ob:=?UK) rfl (by rfl) (λw=>run_eq_of λK hK=>?r1) (λw=>?e1) ?h1
 case r1=>go_simp;exact hK
 case e1=>simp[go_sem]
 intro w1 UH;try walk_nrm
 have tH:=(Kept.rely UH).trans (Kept.alloc γ w1 w1.heap.size (.cells ca 123));have UX:ga (γ.more w1.heap.size) (w1.alloc (.cells ca 123)) w1.heap.size da:=(hva.kept (Kept.rely UH)).boxed;have af8:=hvb.kept tH;generalize w1.alloc (.cells ca 123)=W1 at*;generalize γ.more w1.heap.size=γ1 at*;generalize w1.heap.size=b2 at*;clear UH;refine qN C hp (ob:=?JZ) rfl (by rfl) (λw=>run_eq_of λK hK=>?r2) (λw=>?e2) ?h2
 case r2=>go_simp;exact hK
 case e2=>simp[go_sem]
 intro w2 Uh;try walk_nrm
 have Kc:=(Kept.rely Uh).trans (Kept.alloc γ1 w2 w2.heap.size (.cells cb 123));have uZ:ga (γ1.more w2.heap.size) (w2.alloc (.cells cb 123)) w2.heap.size db:=(af8.kept (Kept.rely Uh)).boxed;have Pw:=UX.kept Kc;have Ga:=tH.trans Kc;generalize w2.alloc (.cells cb 123)=W2 at*;generalize γ1.more w2.heap.size=γ2 at*;generalize w2.heap.size=b3 at*;clear Uh Kc tH UX af8;refine av C ?_;try walk_nrm
 refine aS C ?_;co_then;have hk:=Ga;have ha:=Pw;have hb:=uZ;clear Ga Pw uZ;refine aY C (ct C ?_);refine IC C hp (f:=λn=>.chan (some n)) (ob:=.chan 0 #[] false 0 0 false) rfl (by rfl) (λw=>?_) (λw=>?_) ?_;have h:(Instr.makeChan 170 (.int .i64 0)).run Tryz.prog w=_:=run_makeChan (P:=Tryz.prog) (w:=w) Tryz.underlying170 h71 .i64 0 ab (by rw[b71];omega);simp[execOp,Act.eval,h];have h:(Instr.makeChan 170 (.int .i64 0)).events Tryz.prog w #[]=_:=events_makeChan (P:=Tryz.prog) (w:=w) Tryz.underlying170 h71 .i64 0 ab (by rw[b71];omega) #[];simp[execOp,Act.eval,h];intro ZD adF;try walk_nrm
 have x9:=(Kept.rely adF).trans (Kept.alloc _ ZD ZD.heap.size (.chan 0 #[] false 0 0 false));have hcf:Ch (So.more γ2 ZD.heap.size) (ZD.alloc (.chan 0 #[] false 0 0 false)) ZD.heap.size:=⟨.inr (.inr rfl),heap_alloc_new ZD _⟩;have aka:w.heap.size<=ZD.heap.size:=bt hk.size adF.1
 replace hk:=hk.trans x9
 replace ha:=ha.kept x9
 replace hb:=hb.kept x9
 generalize ZD.alloc (.chan 0 #[] false 0 0 false)=Wpa at*;generalize ZD.heap.size=cf at*;generalize So.more γ2 cf=γpa at*;clear x9 adF;refine qN C hp (ob:=.cells #[.chan none] 170) rfl (by rfl) (λw=>run_eq_of λK hK=>?r4) (λw=>?e4) ?h4
 case r4=>go_simp;exact hK
 case e4=>simp[execOp,Instr.alloc,zeroValue,typeInfo,ajM,z138,newVar,newRow]
 intro UC adE;try walk_nrm
 have x9:=(Kept.rely adE).trans (Kept.alloc _ UC UC.heap.size (.cells #[.chan none] 170));have hz:(UC.alloc (.cells #[.chan none] 170)).frozen? ⟨UC.heap.size,0,none⟩=false:=World.frozen?_alloc_new _ _ _ _;have hs:bF _ _ ⟨UC.heap.size,0,none⟩ (.chan none):=bF.fresh (γ:=γpa) (w:=UC) (cs:=#[.chan none]) (t:=170) rfl rfl;have hO:(So.more γpa UC.heap.size).2 UC.heap.size:=.inr rfl;have JS:Wpa.heap.size<=UC.heap.size:=adE.1;generalize UC.alloc (.cells #[.chan none] 170)=Wpb at*;generalize UC.heap.size=b5 at*;generalize So.more γpa b5=γpb at*;clear adE;refine NT C hp (ad:=⟨b5,0,none⟩) (v:=.chan (some cf)) rfl (by rfl) hO (λw₁ h₁=>⟨?_,?_⟩) ?_;have hc:=(hs.rely h₁).2;have Pp:w₁.frozen? ⟨b5,0,none⟩=false:=(World.frozen?_of_block (h₁.2.1 b5 (.inr hO))).trans hz;refine(?_:∀K:Result Next->Prop,K (.ok .skip (w₁.setCell ⟨b5,0,none⟩ (.chan (some cf))))->K _) (·=_) rfl;intro K hK
 go_simp
 try(unfold stored;go_simp)
 exact hK;have hc:=(hs.rely h₁).2;have Pp:w₁.frozen? ⟨b5,0,none⟩=false:=(World.frozen?_of_block (h₁.2.1 b5 (.inr hO))).trans hz;intro e he;simp[go_sem,hc,Pp]at he;exact he;intro wpc adD;try walk_nrm
 replace x9:=(x9.trans (Kept.rely adD)).put (ad:=⟨b5,0,none⟩) (v:=.chan (some cf)) JS
 have hb5:bF γpb (wpc.setCell ⟨b5,0,none⟩ (.chan (some cf))) ⟨b5,0,none⟩ (.chan (some cf)):=⟨.inr hO,World.cell?_setCell_same _ _ _ (hs.rely adD).2⟩;generalize wpc.setCell ⟨b5,0,none⟩ (.chan (some cf))=Wpc at*
 replace hk:=hk.trans x9
 replace hcf:=hcf.kept x9
 replace ha:=ha.kept x9
 replace hb:=hb.kept x9
 clear x9 hs hz JS hO adD;refine aS C ?_;co_then;refine aY C (ct C ?_);refine IC C hp (f:=λn=>.chan (some n)) (ob:=.chan 0 #[] false 0 0 false) rfl (by rfl) (λw=>?_) (λw=>?_) ?_;have h:(Instr.makeChan 171 (.int .i64 0)).run Tryz.prog w=_:=run_makeChan (P:=Tryz.prog) (w:=w) Tryz.underlying171 h4 .i64 0 ab (by rw[b4];omega);simp[execOp,Act.eval,h];have h:(Instr.makeChan 171 (.int .i64 0)).events Tryz.prog w #[]=_:=events_makeChan (P:=Tryz.prog) (w:=w) Tryz.underlying171 h4 .i64 0 ab (by rw[b4];omega) #[];simp[execOp,Act.eval,h];intro Zj aad;try walk_nrm
 have hne:cf≠Zj.heap.size:=Nat.ne_of_lt (hcf.kept (Kept.rely aad)).lt;have x9:=(Kept.rely aad).trans (Kept.alloc _ Zj Zj.heap.size (.chan 0 #[] false 0 0 false));have pU:Ch (So.more γpb Zj.heap.size) (Zj.alloc (.chan 0 #[] false 0 0 false)) Zj.heap.size:=⟨.inr (.inr rfl),heap_alloc_new Zj _⟩;have aj9:w.heap.size<=Zj.heap.size:=bt hk.size aad.1
 replace hk:=hk.trans x9
 replace ha:=ha.kept x9
 replace hb:=hb.kept x9
 replace hcf:=hcf.kept x9
 replace hb5:=(x9.sees hb5)
 generalize Zj.alloc (.chan 0 #[] false 0 0 false)=Wqa at*;generalize Zj.heap.size=cl at*;generalize So.more γpb cl=γqa at*;clear x9 aad;refine qN C hp (ob:=.cells #[.chan none] 171) rfl (by rfl) (λw=>run_eq_of λK hK=>?r5) (λw=>?e5) ?h5
 case r5=>go_simp;exact hK
 case e5=>simp[execOp,Instr.alloc,zeroValue,typeInfo,ajL,z139,newVar,newRow]
 intro UB adC;try walk_nrm
 have x9:=(Kept.rely adC).trans (Kept.alloc _ UB UB.heap.size (.cells #[.chan none] 171));have hz:(UB.alloc (.cells #[.chan none] 171)).frozen? ⟨UB.heap.size,0,none⟩=false:=World.frozen?_alloc_new _ _ _ _;have hs:bF _ _ ⟨UB.heap.size,0,none⟩ (.chan none):=bF.fresh (γ:=γqa) (w:=UB) (cs:=#[.chan none]) (t:=171) rfl rfl;have hO:(So.more γqa UB.heap.size).2 UB.heap.size:=.inr rfl;have JS:Wqa.heap.size<=UB.heap.size:=adC.1;generalize UB.alloc (.cells #[.chan none] 171)=Wqb at*;generalize UB.heap.size=b6 at*;generalize So.more γqa b6=γqb at*;clear adC;refine NT C hp (ad:=⟨b6,0,none⟩) (v:=.chan (some cl)) rfl (by rfl) hO (λw₁ h₁=>⟨?_,?_⟩) ?_;have hc:=(hs.rely h₁).2;have Pp:w₁.frozen? ⟨b6,0,none⟩=false:=(World.frozen?_of_block (h₁.2.1 b6 (.inr hO))).trans hz;refine(?_:∀K:Result Next->Prop,K (.ok .skip (w₁.setCell ⟨b6,0,none⟩ (.chan (some cl))))->K _) (·=_) rfl;intro K hK
 go_simp
 try(unfold stored;go_simp)
 exact hK;have hc:=(hs.rely h₁).2;have Pp:w₁.frozen? ⟨b6,0,none⟩=false:=(World.frozen?_of_block (h₁.2.1 b6 (.inr hO))).trans hz;intro e he;simp[go_sem,hc,Pp]at he;exact he;intro wqc adB;try walk_nrm
 replace x9:=(x9.trans (Kept.rely adB)).put (ad:=⟨b6,0,none⟩) (v:=.chan (some cl)) JS
 have hb6:bF γqb (wqc.setCell ⟨b6,0,none⟩ (.chan (some cl))) ⟨b6,0,none⟩ (.chan (some cl)):=⟨.inr hO,World.cell?_setCell_same _ _ _ (hs.rely adB).2⟩;generalize wqc.setCell ⟨b6,0,none⟩ (.chan (some cl))=Wqc at*
 replace hk:=hk.trans x9
 replace pU:=pU.kept x9
 replace ha:=ha.kept x9
 replace hb:=hb.kept x9
 replace hcf:=hcf.kept x9
 replace hb5:=(x9.sees hb5)
 clear x9 hs hz JS hO adB;refine aS C ?_;co_then;refine ahh λw1 r1=>?_;have hkr:=Kept.rely r1;have Vo:=hcf.kept hkr;have Vn:=pU.kept hkr;have tH:=hk.trans hkr;have hS:J6 (λb=>γ.all b/\b<w.heap.size) w.heap.size w (Shr w1 cf cl) w1:=
  ⟨λb h=>h.2,λb h=>.inl ⟨cK h.2 tH.size,by have:=h.2;omega,by have:=h.2;omega⟩,λb h=>tH.blk b h.1 h.2,tH.size,tH.env⟩
 refine(?_:∀a',(∃u,a'=PL b2 b3 b5 b6 u)->KJ _ _ _ si _ a' _) _ (pY rfl);rintro a' ⟨u,rfl⟩;have hW:∀n,0<n->Dp (λc=>c=cf\/c=cl) (entry n (chain cf cl (.bool true) (.bool false) false da.bz.length (CP cf (.agg #[.int .i64 0,.int .i64 0,.int .i64 0]) ((eG da db).map vV)) (da.bz.map λx=>msgs da db x db.bz))):=by
  intro n hn;have h:=Mc (tv:=.bool true) (z:=.agg #[.int .i64 0,.int .i64 0,.int .i64 0]) (z2:=.bool false) (qT:=false) hne (da.bz.map λx=>msgs da db x db.bz) hn
  rwa [List.length_map,ab3]at h
 have nH:(chain cf cl (.bool true) (.bool false) false da.bz.length (CP cf (.agg #[.int .i64 0,.int .i64 0,.int .i64 0]) ((eG da db).map vV)) (da.bz.map λx=>msgs da db x db.bz)).live:=by obtain⟨x,y,h⟩:=MK (cf:=cf) (cl:=cl) (tv:=.bool true) (z2:=.bool false) (qT:=false) da.bz.length (CP cf (.agg #[.int .i64 0,.int .i64 0,.int .i64 0]) ((eG da db).map vV)) (da.bz.map λx=>msgs da db x db.bz);rw[h];exact⟨ae,ae,ae⟩
 refine YN hP (Cs:=λc=>c=cf\/c=cl) (S:=(Shr w1 cf cl).1) (O:=(Shr w1 cf cl).2) nH (λb h=>h.elim) (λb h=>h.elim (·.1) (·.elim)) (λc hc=>?_) hW
  (abz hP xd Bu hS ⟨(ha.kept hkr).shr Vo Vn,(hb.kept hkr).shr Vo Vn,(hkr.sees hb5).shr Vo Vn,(hkr.sees hb6).shr Vo Vn⟩ u (λγ' a' w' hE=>yP (hT _ _ _ γ' a' w' hE) ?_))
 rcases hc with rfl|rfl;exact⟨⟨0,false,Vo.2⟩,λh=>h.2.1 rfl,λh=>h⟩;exact⟨⟨0,false,Vn.2⟩,λh=>h.2.2 rfl,λh=>h⟩;rintro _ e a3 w3 ⟨rfl,hd,hold,dW⟩;exact⟨(γ.1,λb=>γ.2 b\/(w.heap.size<=b/\b<w3.heap.size)),hd,a3.tmps.getD 4 undef,resultsC_tmp Tryz.results64 _,rfl,
  ⟨rfl,λ_ h=>.inl h,λb hb hlt=>hold.1 b ⟨hb,hlt⟩,hold.2.1,hold.2.2⟩,⟨dW,λb hb=>.inr (dW.lt b hb)⟩⟩
end Go.Co
namespace Go.Proofs
open Go.Shelf Go.RowKit Go.Lib Go.Sort
def Tryz.Jw:Go.Shelf.Ren:=⟨λ|6=>102|15=>99|14=>136|28=>134|29=>135|20=>149|21=>150|22=>151|23=>152|24=>153|25=>154|26=>155|27=>156|46=>165|47=>145|48=>146|49=>166|50=>167|57=>173|n=>n,λ|22=>56|24=>79|25=>173|3=>3|39=>144|0=>0|53=>218|55=>84|4=>4|46=>211|45=>210|50=>215|5=>5|9=>9|66=>226|70=>229|76=>238|77=>239|n=>n,λ|n=>n⟩
theorem Tryz.K2:Go.Proofs.SlLaysF0.n6 Tryz.prog Tryz.Jw:={
 mixed:=by kernel_rfl
 f6:=⟨Tryz.f102.name,ao,Tryz.func102.trans (congrArg some (by kernel_rfl))⟩
 f14:=⟨Tryz.f136.name,ao,Tryz.func136.trans (congrArg some (by kernel_rfl))⟩
 f15:=Tryz.func99.trans (congrArg some (by kernel_rfl))
 f20:=⟨Tryz.f149.name,ao,Tryz.func149.trans (congrArg some (by kernel_rfl))⟩
 f21:=⟨Tryz.f150.name,ao,Tryz.func150.trans (congrArg some (by kernel_rfl))⟩
 f22:=⟨Tryz.f151.name,ao,Tryz.func151.trans (congrArg some (by kernel_rfl))⟩
 f23:=⟨Tryz.f152.name,ao,Tryz.func152.trans (congrArg some (by kernel_rfl))⟩
 f24:=⟨Tryz.f153.name,ao,Tryz.func153.trans (congrArg some (by kernel_rfl))⟩
 f25:=⟨Tryz.f154.name,ao,Tryz.func154.trans (congrArg some (by kernel_rfl))⟩
 f26:=⟨Tryz.f155.name,ao,Tryz.func155.trans (congrArg some (by kernel_rfl))⟩
 f27:=⟨Tryz.f156.name,ao,Tryz.func156.trans (congrArg some (by kernel_rfl))⟩
 f28:=Tryz.func134.trans (congrArg some (by kernel_rfl))
 f29:=Tryz.func135.trans (congrArg some (by kernel_rfl))
 f46:=⟨Tryz.f165.name,ao,Tryz.func165.trans (congrArg some (by kernel_rfl))⟩
 f47:=Tryz.func145.trans (congrArg some (by kernel_rfl))
 f48:=Tryz.func146.trans (congrArg some (by kernel_rfl))
 f49:=⟨Tryz.f166.name,ao,Tryz.func166.trans (congrArg some (by kernel_rfl))⟩
 f50:=⟨Tryz.f167.name,ao,Tryz.func167.trans (congrArg some (by kernel_rfl))⟩
 f57:=⟨Tryz.f173.name,ao,Tryz.func173.trans (congrArg some (by kernel_rfl))⟩
 t0:=Tryz.underlying0
 a0:=Tryz.isAgg0
 z0:=Tryz.sizeOf0
 v0:=Tryz.zeroValue0
 t3:=Tryz.underlying3
 a3:=Tryz.isAgg3
 z3:=Tryz.sizeOf3
 v3:=Tryz.zeroValue3
 t4:=Tryz.underlying4
 a4:=Tryz.isAgg4
 z4:=Tryz.sizeOf4
 v4:=Tryz.zeroValue4
 t5:=Tryz.underlying5
 a5:=Tryz.isAgg5
 z5:=Tryz.sizeOf5
 v5:=Tryz.zeroValue5
 t9:=Tryz.underlying9
 a9:=Tryz.isAgg9
 z9:=Tryz.sizeOf9
 v9:=Tryz.zeroValue9
 t22:=Tryz.underlying56
 a22:=Tryz.isAgg56
 z22:=Tryz.sizeOf56
 v22:=Tryz.zeroValue56
 t25:=Tryz.underlying173
 a25:=Tryz.isAgg173
 z25:=Tryz.sizeOf173
 v25:=Tryz.zeroValue173
 t39:=Tryz.underlying144
 a39:=Tryz.isAgg144
 z39:=Tryz.sizeOf144
 v39:=Tryz.zeroValue144
 t45:=Tryz.underlying210
 a45:=Tryz.isAgg210
 z45:=Tryz.sizeOf210
 v45:=Tryz.zeroValue210
 t46:=Tryz.underlying211
 a46:=Tryz.isAgg211
 z46:=Tryz.sizeOf211
 v46:=Tryz.zeroValue211
 t50:=Tryz.underlying215
 a50:=Tryz.isAgg215
 z50:=Tryz.sizeOf215
 v50:=Tryz.zeroValue215
 t53:=Tryz.underlying218
 a53:=Tryz.isAgg218
 z53:=Tryz.sizeOf218
 v53:=Tryz.zeroValue218
 t55:=Tryz.underlying84
 a55:=Tryz.isAgg84
 z55:=Tryz.sizeOf84
 v55:=Tryz.zeroValue84
 t66:=Tryz.underlying226
 a66:=Tryz.isAgg226
 z66:=Tryz.sizeOf226
 v66:=Tryz.zeroValue226
 t70:=Tryz.underlying229
 a70:=Tryz.isAgg229
 z70:=Tryz.sizeOf229
 v70:=Tryz.zeroValue229
 t76:=Tryz.underlying238
 a76:=Tryz.isAgg238
 z76:=Tryz.sizeOf238
 v76:=Tryz.zeroValue238
 t77:=Tryz.underlying239
 a77:=Tryz.isAgg239
 z77:=Tryz.sizeOf239
 v77:=Tryz.zeroValue239}
def Tryz.Pe:Go.Shelf.Ren:=⟨λ|5=>105|7=>137|n=>n,λ|22=>3|3=>3|4=>4|n=>n,λ|n=>n⟩
theorem Tryz.afD:Go.Proofs.SlLaysC2.n5 Tryz.prog Tryz.Pe:={
 mixed:=by kernel_rfl
 f5:=⟨Tryz.f105.name,ao,Tryz.func105.trans (congrArg some (by kernel_rfl))⟩
 f7:=⟨Tryz.f137.name,ao,Tryz.func137.trans (congrArg some (by kernel_rfl))⟩
 t3:=Tryz.underlying3
 a3:=Tryz.isAgg3
 z3:=Tryz.sizeOf3
 v3:=Tryz.zeroValue3
 t4:=Tryz.underlying4
 a4:=Tryz.isAgg4
 z4:=Tryz.sizeOf4
 v4:=Tryz.zeroValue4
 t22:=Tryz.underlying3
 a22:=Tryz.isAgg3
 z22:=Tryz.sizeOf3
 v22:=Tryz.zeroValue3}
theorem Tryz.ais (x y:Int)(w:World):Calls Tryz.prog 105 #[.int .i64 x,.int .i64 y] w λe w'=>e=.returned (.int .i64 (Lib.compareInt x y))/\w'=w:=by have h:=AnyG.cmp_Compare_int Tryz.afD x y w;exact h
def ZI(a b c:Int):Int:=if a=0 then if b=0 then c else b else a
theorem Tryz.aiW (a b c:Int)(n:Nat)(w:World)(h0:w.cell? ⟨n,0,none⟩=some (.int .i64 a))(h1:w.cell? ⟨n,1,none⟩=some (.int .i64 b))(h2:w.cell? ⟨n,2,none⟩=some (.int .i64 c)):
  Calls Tryz.prog 104 #[.slice (some ⟨n,0,none⟩) 3 3] w λe w'=>e=.returned (.int .i64 (ZI a b c))/\w'=w:=by
 have hr:(a≠0->ZI a b c=a)/\(a=0->b≠0->ZI a b c=b)/\(a=0->b=0->ZI a b c=c):=by
  refine⟨λh=>if_neg h,λh h'=>?_,λh h'=>?_⟩;unfold ZI;rw[if_pos h,if_neg h']
  unfold ZI;rw[if_pos h,if_pos h']
 generalize ZI a b c=r at hr⊢
 go_enter Tryz.func104,Tryz.ntmps104
 go_wp2
 go_loop [5,8] (λ_ i=>∃k:Nat,k<=3/\i=.int .i64 k/\(1<=k->a=0)/\(2<=k->b=0)/\(3<=k->c=0)) (λ_ i=>3-(intOf i).toNat)
 case atStart=>exact⟨0,ab,rfl,ab,ab,ab⟩
 case round=>
  obtain⟨k,hk,rfl,ha,hb,hc⟩:=hrel;have afu:k=0\/k=1\/k=2\/k=3:=ab
  rcases afu with rfl|rfl|rfl|rfl
  .clear ha hb hc;by_cases hz:a=0
   .subst hz
    go_wp2
    go_round
    case rel=>exact⟨1,ab,by go_num,ae,ab,ab⟩
    case measure=>simp[intOf]
   have hra:=hr.1 hz;clear hr;subst hra
   go_wp2
   go_ret
   exact⟨rfl,rfl⟩
  .have ha:=ha ab;subst ha;clear hb hc h0;by_cases hz:b=0
   .subst hz
    go_wp2
    go_round
    case rel=>exact⟨2,ab,by go_num,ae,ae,ab⟩
    case measure=>simp[intOf]
   have hra:=hr.2.1 rfl hz;clear hr;subst hra
   go_wp2
   go_ret
   exact⟨rfl,rfl⟩
  .have ha:=ha ab;have hb:=hb ab;subst ha;subst hb;clear hc h0 h1;by_cases hz:c=0
   .subst hz
    go_wp2
    go_round
    case rel=>exact⟨3,ab,by go_num,ae,ae,ae⟩
    case measure=>simp[intOf]
   have hra:=hr.2.2 rfl rfl;clear hr;subst hra
   go_wp2
   go_ret
   exact⟨rfl,rfl⟩
  have ha:=ha ab;have hb:=hb ab;have hc:=hc ab;have hra:=hr.2.2 ha hb;subst ha;subst hb;subst hc;clear hr h0 h1 h2;subst hra
  go_wp2
  go_ret
  exact⟨rfl,rfl⟩
def yz(x y:Int×Int×Int):Int:=ZI (Lib.compareInt x.1 y.1) (Lib.compareInt x.2.1 y.2.1) (Lib.compareInt x.2.2 y.2.2)
theorem Tryz.Ub (x y:Int×Int×Int)(W:World):Calls Tryz.prog 103 #[.agg #[.int .i64 x.1,.int .i64 x.2.1,.int .i64 x.2.2],.agg #[.int .i64 y.1,.int .i64 y.2.1,.int .i64 y.2.2]] W λe w'=>e=.returned (.int .i64 (yz x y))/\∃q os',w'=grow (W.drewN q) os':=by
 obtain⟨x1,x2,x3⟩:=x;obtain⟨y1,y2,y3⟩:=y;have RS:=Tryz.ais;unfold yz;simp only;have hA:=RS x1 y1;have hB:=RS x2 y2;have hC:=RS x3 y3;clear RS;generalize Lib.compareInt x1 y1=A at*;generalize Lib.compareInt x2 y2=B at*;generalize Lib.compareInt x3 y3=C at*
 go_enter Tryz.func103,Tryz.ntmps103
 go_wp2
 refine wp_region_still_tail 15 (by kernel_rfl) (by kernel_rfl) ?_;simp only[List.take_succ_cons,List.take_zero,List.drop_succ_cons,qy];have a1:((W.alloc (.cells #[.int .i64 x1,.int .i64 x2,.int .i64 x3] 79)).alloc (.cells #[.int .i64 y1,.int .i64 y2,.int .i64 y3] 79)).drew.cell? ⟨W.heap.size,0,none⟩=some (.int .i64 x1):=by refine(World.cell?_alloc_lt _ _ _ ae).trans ?_;rw[World.cell?_alloc_new];rfl
 have a2:((W.alloc (.cells #[.int .i64 x1,.int .i64 x2,.int .i64 x3] 79)).alloc (.cells #[.int .i64 y1,.int .i64 y2,.int .i64 y3] 79)).drew.cell? ⟨W.heap.size,1,none⟩=some (.int .i64 x2):=by refine(World.cell?_alloc_lt _ _ _ ae).trans ?_;rw[World.cell?_alloc_new];rfl
 have a3:((W.alloc (.cells #[.int .i64 x1,.int .i64 x2,.int .i64 x3] 79)).alloc (.cells #[.int .i64 y1,.int .i64 y2,.int .i64 y3] 79)).drew.cell? ⟨W.heap.size,2,none⟩=some (.int .i64 x3):=by refine(World.cell?_alloc_lt _ _ _ ae).trans ?_;rw[World.cell?_alloc_new];rfl
 have b1:((W.alloc (.cells #[.int .i64 x1,.int .i64 x2,.int .i64 x3] 79)).alloc (.cells #[.int .i64 y1,.int .i64 y2,.int .i64 y3] 79)).drew.cell? ⟨W.heap.size+1,0,none⟩=some (.int .i64 y1):=by have h:=World.cell?_alloc_new (W.alloc (.cells #[.int .i64 x1,.int .i64 x2,.int .i64 x3] 79)) #[.int .i64 y1,.int .i64 y2,.int .i64 y3] 79 0;rw[show(W.alloc (.cells #[.int .i64 x1,.int .i64 x2,.int .i64 x3] 79)).heap.size=W.heap.size+1 by simp]at h;exact h.trans rfl
 have b2:((W.alloc (.cells #[.int .i64 x1,.int .i64 x2,.int .i64 x3] 79)).alloc (.cells #[.int .i64 y1,.int .i64 y2,.int .i64 y3] 79)).drew.cell? ⟨W.heap.size+1,1,none⟩=some (.int .i64 y2):=by have h:=World.cell?_alloc_new (W.alloc (.cells #[.int .i64 x1,.int .i64 x2,.int .i64 x3] 79)) #[.int .i64 y1,.int .i64 y2,.int .i64 y3] 79 1;rw[show(W.alloc (.cells #[.int .i64 x1,.int .i64 x2,.int .i64 x3] 79)).heap.size=W.heap.size+1 by simp]at h;exact h.trans rfl
 have b3:((W.alloc (.cells #[.int .i64 x1,.int .i64 x2,.int .i64 x3] 79)).alloc (.cells #[.int .i64 y1,.int .i64 y2,.int .i64 y3] 79)).drew.cell? ⟨W.heap.size+1,2,none⟩=some (.int .i64 y3):=by have h:=World.cell?_alloc_new (W.alloc (.cells #[.int .i64 x1,.int .i64 x2,.int .i64 x3] 79)) #[.int .i64 y1,.int .i64 y2,.int .i64 y3] 79 2;rw[show(W.alloc (.cells #[.int .i64 x1,.int .i64 x2,.int .i64 x3] 79)).heap.size=W.heap.size+1 by simp]at h;exact h.trans rfl
 have hg:((W.alloc (.cells #[.int .i64 x1,.int .i64 x2,.int .i64 x3] 79)).alloc (.cells #[.int .i64 y1,.int .i64 y2,.int .i64 y3] 79)).drew=grow (W.drewN 1) (#[.cells #[.int .i64 x1,.int .i64 x2,.int .i64 x3] 79]++#[.cells #[.int .i64 y1,.int .i64 y2,.int .i64 y3] 79]):=by rw[alloc_eq_grow,alloc_eq_grow,grow_grow];rfl
 change wpStill _ _ ((W.alloc (.cells #[.int .i64 x1,.int .i64 x2,.int .i64 x3] 79)).alloc (.cells #[.int .i64 y1,.int .i64 y2,.int .i64 y3] 79)).drew (λa'=>wpList _ _ _ _ a' ((W.alloc (.cells #[.int .i64 x1,.int .i64 x2,.int .i64 x3] 79)).alloc (.cells #[.int .i64 y1,.int .i64 y2,.int .i64 y3] 79)).drew) _ _;generalize((W.alloc (.cells #[.int .i64 x1,.int .i64 x2,.int .i64 x3] 79)).alloc (.cells #[.int .i64 y1,.int .i64 y2,.int .i64 y3] 79)).drew=W2 at*;have HG:=Lib.hid hg;clear hg;repeat still_step
 still_call (hA _)
 repeat still_step
 still_call (hB _)
 repeat still_step
 still_call (hC _)
 repeat still_step
 refine wpStill_nil ?_;clear a1 a2 a3 b1 b2 b3 hA hB hC;have c0:(W2.alloc (.cells #[.int .i64 A,.int .i64 B,.int .i64 C] 3)).cell? ⟨W2.heap.size,0,none⟩=some (.int .i64 A):=by rw[World.cell?_alloc_new];rfl
 have c1:(W2.alloc (.cells #[.int .i64 A,.int .i64 B,.int .i64 C] 3)).cell? ⟨W2.heap.size,1,none⟩=some (.int .i64 B):=by rw[World.cell?_alloc_new];rfl
 have c2:(W2.alloc (.cells #[.int .i64 A,.int .i64 B,.int .i64 C] 3)).cell? ⟨W2.heap.size,2,none⟩=some (.int .i64 C):=by rw[World.cell?_alloc_new];rfl
 have hor:=Tryz.aiW A B C W2.heap.size _ c0 c1 c2;clear c0 c1 c2
 go_wp2_with (go_at_call 104;refine hor.mono ?_;rintro e w' ⟨rfl,rfl⟩)
 go_ret
 have pW:∃q os',W2.alloc (.cells #[.int .i64 A,.int .i64 B,.int .i64 C] 3)=grow (W.drewN q) os':=
  ⟨1,(#[.cells #[.int .i64 x1,.int .i64 x2,.int .i64 x3] 79]++#[.cells #[.int .i64 y1,.int .i64 y2,.int .i64 y3] 79])++#[.cells #[.int .i64 A,.int .i64 B,.int .i64 C] 3],by rw[alloc_eq_grow,HG.out,grow_grow]⟩
 exact⟨rfl,pW⟩
end Go.Proofs
namespace Go.Co
open Go Go.Conc Go.Proofs Go.Sort Go.Shelf
def Ui(x y:Sm):Prop:=x.1<y.1\/(x.1=y.1/\(x.2.1<y.2.1\/(x.2.1=y.2.1/\x.2.2<y.2.2)))
theorem Bl(x y:Int):(x<y/\Lib.compareInt x y=-1)\/(x=y/\Lib.compareInt x y=0)\/(y<x/\Lib.compareInt x y=1):=by
 unfold Lib.compareInt;by_cases h1:x<y
 grind
 grind
theorem lt_iff(x y:Sm):ltOf yz x y=true↔Ui x y:=by obtain⟨x1,x2,x3⟩:=x;obtain⟨y1,y2,y3⟩:=y;unfold ltOf yz ZI Ui;simp only[bR];rcases Bl x1 y1 with ⟨h1,e1⟩|⟨h1,e1⟩|⟨h1,e1⟩<;>rcases Bl x2 y2 with ⟨h2,e2⟩|⟨h2,e2⟩|⟨h2,e2⟩<;>rcases Bl x3 y3 with ⟨h3,e3⟩|⟨h3,e3⟩|⟨h3,e3⟩<;>simp[e1,e2,e3]<;>omega
theorem Er(x y:Sm):ltOf yz x y=false↔¬Ui x y:=by rw[<-lt_iff];simp
theorem agQ:SWO (ltOf yz) where
 irrefl x:=by rw[Er];unfold Ui;omega
 trans x y z h1 h2:=by rw[lt_iff]at*;unfold Ui at*;omega
 ntrans x y z h1 h2:=by rw[Er]at*;unfold Ui at*;omega
theorem SA{d:Array Sm}{R:List Sm}(hp:d.toList.Perm R)(hs:SortedIn (ltOf yz) 0 d.size d)(hR:R.Pairwise Ui):d.toList=R:=by
 refine List.Perm.eq_of_pairwise (le:=λx y=>¬Ui y x) (λa b _ _ h1 h2=>?_) ?_ (hR.imp λ{a b} h=>?_) hp;obtain⟨a1,a2,a3⟩:=a;obtain⟨b1,b2,b3⟩:=b;unfold Ui at h1 h2;simp only at h1 h2;have e1:a1=b1:=ab
 have e2:a2=b2:=ab
 have e3:a3=b3:=ab
 rw[e1,e2,e3];rw[List.pairwise_iff_getElem];intro i j hi hj Rz;have h:=hs i j (gm _) Rz (by simpa using hj);rw[Er]at h;simp only[eZ]at hi hj;rw[sC d i hi,sC d j hj]at h;simpa using h;unfold Ui at*;omega
def ZA(l:cj):Prop:=l.Pairwise (·<·)
theorem Oi(low up:cj)(cS:Int):ZA (sr low up cS):=by unfold ZA sr UG;refine List.Pairwise.filter _ ?_;rw[List.pairwise_map];exact List.pairwise_lt_range.imp λ{a b} h=>ab
theorem SD{da db:Wk}(ha:ZA da.bz)(hb:ZA db.bz):(eG da db).Pairwise Ui:=by unfold eG;rw[List.pairwise_flatMap];refine⟨λx _=>?_,ha.imp λ{x x'} h=>?_⟩;rw[List.pairwise_flatMap];refine⟨λy _=>?_,hb.imp λ{y y'} h=>?_⟩;rw[List.pairwise_map];exact(Oi _ _ _).imp λ{s s'} h=>.inr ⟨rfl,.inr ⟨rfl,h⟩⟩;intro m hm m' J5;obtain⟨s,_,rfl⟩:=fQ.1 hm;obtain⟨s',_,rfl⟩:=fQ.1 J5;exact .inr ⟨rfl,.inl h⟩;intro m hm m' J5;obtain⟨y,_,hm⟩:=Jq.1 hm;obtain⟨y',_,J5⟩:=Jq.1 J5;obtain⟨s,_,rfl⟩:=fQ.1 hm;obtain⟨s',_,rfl⟩:=fQ.1 J5;exact .inl h
theorem Hw(d:Array Sm):(flatK rR 3 d).toList=d.toList.flatMap rR:=by
 apply nj;intro t;have hlen:(d.toList.flatMap rR).length=d.size*3:=by rw[IX];simp
 by_cases ht:t<d.size*3;have h1:=get_flatK rR 3 d t ht;rw[sC _ t (by simpa using ht)]at h1;rw[jL,b7 (by simpa using ht),h1];have key:∀(l:List Sm)(t:Nat),t<l.length*3->(l.flatMap rR)[t]? =some ((rR (l[t/3]!))[t % 3]!):=by
  intro l;induction l with
  |nil=>intro t h;simp at h
  |cons m l ih=>
   intro t h;rw[dm];by_cases h3:t<3;have e0:t/3=0:=ab
   have e1:t % 3=t:=ab
   rw[e0,e1,eD (by simpa [rR]using h3)];have:t=0\/t=1\/t=2:=ab
   rcases this with rfl|rfl|rfl<;>rfl;obtain⟨s,rfl⟩:∃s,t=s+3:=⟨t-3,ab⟩;have e0:(s+3)/3=s/3+1:=ab
   have e1:(s+3) % 3=s % 3:=ab
   rw[e0,e1,fT (by simp[rR])];have:=ih s (by simp at h;omega);simpa [rR]using this
 rw[key d.toList t (by simpa using ht)];congr 3;have hd:t/3<d.size:=ab
 rw[sC d _ hd,sC d.toList _ (by simpa using hd)];simp;rw[qD (by simp;omega),qD ab]
theorem OY{w:World}{g:Nat}{cur:Array Value}{e:TypeId}{d:Array Sm}(hb:w.heap[g]? =some (.cells cur e (0,0)))(ht:cur.toList.take (d.size*3)=d.toList.flatMap rR):HoldsK rR 3 w g 0 d:=by
 intro j hj;rw[size_flatK]at hj;refine⟨?_,by simp[World.frozen?,hb]⟩;have h1:(cur.toList.take (d.size*3))[j]? =(flatK rR 3 d).toList[j]? :=by rw[ht,Hw]
 rw[List.getElem?_take_of_lt hj]at h1;simp only[World.cell?,hb,eO];simp only[Option.isSome_none,aJ,if_false];rw[<-jL,h1,jL,b7 (by simpa using hj),sC _ j (by simpa using hj)];rfl
theorem TZ{w:World}{g n:Nat}{os:Array Obj}{cur:Array Value}{e:TypeId}{fr:Nat×Nat}(d:Array Sm)(hb:w.heap[g]? =some (.cells cur e fr)):
  (sortWorldK rR 3 w g 0 n d os).heap[g]? =some (.cells (putCells id 0 (flatK rR 3 d) cur) e fr):=by
 have hg:g<w.heap.size:=(aG.1 hb).1;unfold sortWorldK putRowK;rw[heap_grow_old _ _ (by simpa using hg)];simp[putRow,mapBlock,Sort.ahead,Array.getElem?_modify,hb,onCells]
theorem JK{w:World}{g n:Nat}{os:Array Obj}(d:Array Sm):w.grownBy (sortWorldK rR 3 w g 0 n d os) (some g):=by unfold sortWorldK putRowK;refine⟨rfl,rfl,rfl,ae,λk hk hne=>?_⟩;rw[heap_grow_old _ _ (by simpa using hk)];have:g≠k:=λe=>hne (by rw[e]);simp[putRow,mapBlock,Sort.ahead,Array.getElem?_modify,this]
theorem JD{w:World}{base g cap n:Nat}{e:TypeId}{os:Array Obj}{cur:Array Value}{d:Array Sm}(tY:base<=g)(hb:w.heap[g]? =some (.cells cur e (0,0)))
  (h1:d.size<=cap) (h2:cap<=maxLen) (h3:cur.size=cap*3):
  (sortWorldK rR 3 w g 0 n d os).ownsRow base e 3 (.slice (some ⟨g,0,none⟩) d.size cap) d.size (d.toList.flatMap rR):=by
 refine⟨by rw[IX];simp,.inr ⟨g,cap,_,rfl,tY,TZ d hb,h1,h2,by simp[putCells,h3],?_⟩⟩;rw[<-Hw];apply nj;intro j;by_cases hj:j<d.size*3;rw[List.getElem?_take_of_lt hj,jL,jL];have hc:j<cur.size:=ab
 simp[putCells,hj,hc];rw[List.getElem?_take_eq_none ab,qD (by simp;omega)]
end Go.Co
namespace Go.Co
open Go
variable {P:Program}
instance (h:Value):TC P (Extern.Rtype.ofHandle h):=⟨by
 unfold Extern.Rtype.ofHandle
 exact bW⟩
instance (t:TypeId):TC P (Extern.Rtype.handle t):=⟨by
 unfold Extern.Rtype.handle
 exact bW⟩
instance (s:String) (t:TypeId):TC P (Extern.Rtype.noPack s t):=⟨by
 unfold Extern.Rtype.noPack
 exact bW⟩
instance (s:String) (t:TypeId):TC P (Extern.Rtype.noPackHeld s t):=⟨by
 unfold Extern.Rtype.noPackHeld
 exact bW⟩
instance (s:String) (t:TypeId):TC P (Extern.Rtype.noPackNamed s t):=⟨by
 unfold Extern.Rtype.noPackNamed
 exact bW⟩
instance (s:String) (t:TypeId):TC P (Extern.Rtype.noPackMethods s t):=⟨by
 unfold Extern.Rtype.noPackMethods
 exact bW⟩
instance (t:TypeId):TC P (Extern.Rtype.spelt t):=⟨by
 unfold Extern.Rtype.spelt
 exact bW⟩
instance (t:TypeId):TC P (Extern.Rtype.under t):=⟨by
 unfold Extern.Rtype.under
 exact bW⟩
instance (t:TypeId):TC P (Extern.Rtype.kind t):=⟨by
 unfold Extern.Rtype.kind
 exact bW⟩
instance (t:TypeId):TC P (Extern.Rtype.hasName t):=⟨by
 unfold Extern.Rtype.hasName
 exact bW⟩
instance (t:TypeId):TC P (Extern.Rtype.elem? t):=⟨by
 unfold Extern.Rtype.elem?
 exact bW⟩
instance (t u:TypeId):TC P (Extern.Rtype.implements t u):=⟨by
 unfold Extern.Rtype.implements
 exact bW⟩
instance (t u:TypeId):TC P (Extern.Rtype.directlyAssignable t u):=⟨by
 unfold Extern.Rtype.directlyAssignable
 exact bW⟩
instance (t:TypeId):TC P (Extern.ReflectliteType.toType t):=⟨by
 unfold Extern.ReflectliteType.toType
 exact bW⟩
instance (v:Value):TC P (Extern.ReflectliteType.ofRtype v):=⟨by
 unfold Extern.ReflectliteType.ofRtype
 cases v<;>try exact ak _
 rename_i cs
 rcases cs with ⟨_|⟨x,_|⟨y,l⟩⟩⟩<;>try exact ak _
 refine aA TC.out λ_=>?_
 exact bW⟩
instance (t:TypeId):TC P (Extern.ReflectliteType.elem t):=⟨by
 unfold Extern.ReflectliteType.elem
 exact bW⟩
instance (t:TypeId):TC P (Extern.ReflectliteType.name t):=⟨by
 unfold Extern.ReflectliteType.name
 exact bW⟩
instance (t:TypeId):TC P (Extern.ReflectliteType.pkgPath t):=⟨by
 unfold Extern.ReflectliteType.pkgPath
 exact bW⟩
instance (t u:TypeId):TC P (Extern.ReflectliteType.implements_ t u):=⟨by
 unfold Extern.ReflectliteType.implements_
 exact bW⟩
instance (t u:TypeId):TC P (Extern.ReflectliteType.assignableTo t u):=⟨by
 unfold Extern.ReflectliteType.assignableTo
 exact bW⟩
instance (a:Array Value):TC P (Extern.ReflectliteType.typeOf a):=⟨by
 unfold Extern.ReflectliteType.typeOf
 rcases a with ⟨_|⟨x,_|⟨y,l⟩⟩⟩
 .exact ak _
 rotate_left
 .exact ak _
 cases x<;>try exact ak _
 all_goals first|exact(TC.out:T1 P (pure Value.nilIface))|exact(TC.out:T1 P (Extern.ReflectliteType.toType _))⟩
theorem t_rmeth{f:TypeId->Sem Value}(h:∀t,T1 P (f t))(a:Array Value):T1 P (Extern.ReflectliteType.method f a):=by
 unfold Extern.ReflectliteType.method;rcases a with ⟨_|⟨x,_|⟨y,l⟩⟩⟩;exact ak _
 rotate_left
 exact ak _;exact aA TC.out λt=>h t
theorem t_rabi{f:TypeId->Sem Value}(h:∀t,T1 P (f t))(a:Array Value):T1 P (Extern.ReflectliteType.abiMethod f a):=by
 unfold Extern.ReflectliteType.abiMethod;rcases a with ⟨_|⟨x,_|⟨y,l⟩⟩⟩;exact ak _
 rotate_left
 exact ak _;exact aA TC.out λt=>aA TC.out λ_=>h t
theorem t_rrel{s:String}{f:TypeId->TypeId->Sem Bool}(h:∀t u,T1 P (f t u))(a:Array Value):T1 P (Extern.ReflectliteType.relation s f a):=by
 unfold Extern.ReflectliteType.relation;rcases a with ⟨_|⟨x,_|⟨y,_|⟨z,l⟩⟩⟩⟩;exact ak _;exact ak _
 rotate_left
 exact ak _;cases y<;>try exact ak _
 exact aA TC.out λt=>aA TC.out λu=>aA (h _ _) λ_=>TC.out;exact t_panicString _
instance (t:TypeId) (a:Addr) (n:Nat):TC P (Extern.ReflectliteValue.mk t a n):=⟨by
 unfold Extern.ReflectliteValue.mk
 exact bW⟩
instance (v:Value):TC P (Extern.ReflectliteValue.unpack v):=⟨by
 unfold Extern.ReflectliteValue.unpack
 exact bW⟩
instance {α:Type} (s:String) (k:Nat):TC P (Extern.ReflectliteValue.valueError s k:Sem α):=⟨by
 unfold Extern.ReflectliteValue.valueError
 exact bW⟩
instance (v:Value):TC P (Extern.ReflectliteValue.partsAny v):=⟨by
 unfold Extern.ReflectliteValue.partsAny
 cases v<;>try exact ak _
 rename_i cs
 rcases cs with ⟨_|⟨x,_|⟨y,_|⟨z,_|⟨u,l⟩⟩⟩⟩⟩<;>try exact ak _
 cases z
 case int k n=>
  cases k
  case u64=>
   rcases n with (_|n)|n<;>cases y<;>first|exact ak _|exact(TC.out:T1 P (pure none))|(rename_i p;cases p<;>first|exact ak _|exact(aA TC.out λ_=>TC.out))
  all_goals (cases y<;>first|exact ak _|(rename_i p;cases p<;>exact ak _))
 all_goals (cases y<;>first|exact ak _|(rename_i p;cases p<;>exact ak _))⟩
instance (v:Value):TC P (Extern.ReflectliteValue.parts v):=⟨by
 unfold Extern.ReflectliteValue.parts
 exact bW⟩
theorem t_vmeth{z:Sem Value}{f:TypeId->Addr->Nat->Nat->Sem Value}(hz:T1 P z)(h:∀t a m n,T1 P (f t a m n))(a:Array Value):T1 P (Extern.ReflectliteValue.method z f a):=by
 unfold Extern.ReflectliteValue.method;rcases a with ⟨_|⟨x,_|⟨y,l⟩⟩⟩;exact ak _
 rotate_left
 exact ak _;refine aA TC.out λo=>?_;split;exact hz;exact h _ _ _ _
theorem t_vany{z:Sem Value}{f:TypeId->Addr->Nat->Nat->Sem Value}(hz:T1 P z)(h:∀t a m n,T1 P (f t a m n))(a:Array Value):T1 P (Extern.ReflectliteValue.methodAny z f a):=by
 unfold Extern.ReflectliteValue.methodAny;rcases a with ⟨_|⟨x,_|⟨y,l⟩⟩⟩;exact ak _
 rotate_left
 exact ak _;refine aA TC.out λo=>?_;split;exact hz;exact h _ _ _ _
instance (t:TypeId) (a:Addr) (m n:Nat):TC P (Extern.ReflectliteValue.isNil t a m n):=⟨by
 unfold Extern.ReflectliteValue.isNil
 exact bW⟩
instance (t:TypeId) (a:Addr) (m n:Nat):TC P (Extern.ReflectliteValue.elem t a m n):=⟨by
 unfold Extern.ReflectliteValue.elem
 exact bW⟩
instance (a:Array Value):TC P (Extern.ReflectliteValue.set a):=⟨by
 unfold Extern.ReflectliteValue.set
 rcases a with ⟨_|⟨x,_|⟨y,_|⟨z,l⟩⟩⟩⟩
 .exact ak _
 .exact ak _
 rotate_left
 .exact ak _
 refine aA TC.out λ_=>?_
 exact bW⟩
instance (a:Array Value):TC P (Extern.ReflectliteValue.errorText a):=⟨by
 unfold Extern.ReflectliteValue.errorText
 rcases a with ⟨_|⟨x,_|⟨y,l⟩⟩⟩
 .exact ak _
 rotate_left
 .exact ak _
 cases x<;>try exact ak _
 rename_i p
 cases p
 .exact t_runtimePanic _
 .refine aA TC.out λ_=>?_
  exact bW⟩
instance (a:Addr) (n:Nat) (b:ByteArray):TC P (Extern.Bytes.loadBytes a n b):=⟨by
 induction n generalizing a b with
 |zero=>unfold Extern.Bytes.loadBytes;exact TC.out
 |succ n ih=>
  unfold Extern.Bytes.loadBytes
  exact bW⟩
instance (v:Value):TC P (Extern.Bytes.bytesOf v):=⟨by
 unfold Extern.Bytes.bytesOf
 exact bW⟩
instance (v:Value):TC P (Extern.Bytes.asByte v):=⟨by
 unfold Extern.Bytes.asByte
 exact bW⟩
instance (a:Array Value):TC P (Extern.BytealgCount.count a):=⟨by
 unfold Extern.BytealgCount.count
 rcases a with ⟨_|⟨x,_|⟨y,_|⟨z,l⟩⟩⟩⟩
 .exact ak _
 .exact ak _
 rotate_left
 .exact ak _
 refine aA TC.out λ_=>?_
 exact bW⟩
instance:TC P (Extern.BytealgIndex.maxLen):=⟨by
 unfold Extern.BytealgIndex.maxLen
 exact bW⟩
instance (a:Array Value):TC P (Extern.BytealgIndex.index a):=⟨by
 unfold Extern.BytealgIndex.index
 rcases a with ⟨_|⟨x,_|⟨y,_|⟨z,l⟩⟩⟩⟩
 .exact ak _
 .exact ak _
 rotate_left
 .exact ak _
 refine aA TC.out λ_=>?_
 exact bW⟩
instance (a:Array Value):TC P (Extern.BytealgIndexByte.indexByte a):=⟨by
 unfold Extern.BytealgIndexByte.indexByte
 rcases a with ⟨_|⟨x,_|⟨y,_|⟨z,l⟩⟩⟩⟩
 .exact ak _
 .exact ak _
 rotate_left
 .exact ak _
 refine aA TC.out λ_=>?_
 exact bW⟩
instance (r s:Array TypeId) (a:Array Value):TC P (Extern.BytealgMakeNoZero.makeNoZero r s a):=⟨by
 unfold Extern.BytealgMakeNoZero.makeNoZero
 rcases a with ⟨_|⟨x,_|⟨y,l⟩⟩⟩
 .exact ak _
 rotate_left
 .exact ak _
 cases x<;>try exact ak _
 rename_i k n
 cases k<;>try exact ak _
 rcases s with ⟨_|⟨t,l⟩⟩
 .exact ak _
 .refine aA (TC.out:T1 P (underlying t)) λ_=>?_
  exact bW⟩
instance (a:Array Value):TC P (Extern.AbiNoEscape.same a):=⟨by
 unfold Extern.AbiNoEscape.same
 rcases a with ⟨_|⟨x,_|⟨y,l⟩⟩⟩
 .exact ak _
 rotate_left
 .exact ak _
 exact(TC.out:T1 P (pure x))⟩
end Go.Co
