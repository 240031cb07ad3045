import Derived.Test.YtedcgbkilmlbhaaGreatPk36
import Derived.Conc.SmallLaws
import Derived.Shelf.SlSortCmp.WholeK
import Derived.Shelf.SlicesG.Cmp
import Derived.Shelf.Lay
import Derived.Ground.SlsfProg
import Derived.Ground.SlgcProg
import Derived.WalkKit
import Derived.WalkSpells
import Derived.WalkLawsBesides
import Derived.StillTailTactics
import Derived.Deep.QuietTactic
import Derived.BigQuiet
import Derived.Lib.Hide
import Derived.Test.YtedcgbkilmlbhaaGreatPk25
import Derived.Test.YtedcgbkilmlbhaaGreatChecked
import Derived.KernelRfl
import Derived.Test.YtedcgbkilmlbhaaGreatPk30
set_option maxHeartbeats 2000000
set_option maxRecDepth 100000
namespace Go.Co
open Go Go.Conc Go.Proofs
open Classical
variable {P:Program} {aa:Machine->Trace->Prop} {γ:So} {w:World}
noncomputable def I7:Code:=match tg with|.seq _ (.seq _ (.seq _ (.seq _ x)))=>x|_=>.skip
noncomputable def aiH:Code:=match tg with|.seq _ (.seq x _)=>x|_=>.skip
noncomputable def aiG:Code:=match tg with|.seq _ (.seq _ (.seq x _))=>x|_=>.skip
noncomputable def agu:Code:=match tg with|.seq _ (.seq _ (.seq _ (.seq (.seq x _) _)))=>x|_=>.skip
def eA(da db:Wk):List Sm:=da.bJ.flatMap λx=>db.bJ.flatMap λy=>(gM da db x y).map λs=>(x,y,s)
theorem QU(da db:Wk)(x:Int):∀ys:br,msgs da db x ys=(ys.flatMap λy=>(gM da db x y).map λs=>(x,y,s)).map wU
 |[]=>rfl
 |y::ys=>by rw[Hs,QU da db x ys,cz,fG,jm];rfl
theorem ace(da db:Wk):(da.bJ.map λx=>msgs da db x db.bJ).flatten=(eA da db).map wU:=by
 unfold eA;induction da.bJ with
 |nil=>rfl
 |cons x l ih=>rw[aY,List.flatten_cons,ih,cz,fG,QU]
theorem vM{α β:Type}(f:α->List β)(c:Nat):∀l:List α,(∀x∈l,(f x).length<=c)->(l.flatMap f).length<=l.length*c
 |[],_=>ae
 |a::l,h=>by have h1:=h a ae;have h2:=vM f c l λx hx=>h x (by simp[hx]);rw[cz,cn,di,j8];omega
theorem E0{da db:Wk}(xK:da.ok)(BR:db.ok):(eA da db).length<=4294967296:=by
 have h1:∀x∈da.bJ,(db.bJ.flatMap λy=>(gM da db x y).map λs=>(x,y,s)).length<=1000*2001:=by intro x _;refine bt (vM _ 2001 _ λy _=>?_) (fH _ BR.few);rw[List.length_map];have h2:=(BR.up y.toNat).1;have h3:=(xK.lo x.toNat).1;exact bt (Jk _ _ _ _) ab
 have h4:=vM _ _ _ h1;have h5:=fH (1000*2001) xK.few;unfold eA;omega
theorem abF(hP:Plain Tryz.prog){b2 b3 b5 b6 cf cl:Nat}{da db:Wk}(xK:da.ok)(BR:db.ok){A:Nat->Prop}{B0:Nat}{w0:World}(hS:Kw A B0 w0 γ w)(hF:Fx da db b2 b3 b5 b6 cf cl γ w)(u:Nat->Value){Qf:Exit->Act->World->Prop}
  (hT:∀γ' a' w',aeL A B0 w0 (eA da db) (.ret,γ') .normal a' w'->KJ (jh Tryz.prog aa) 60 () I7 (λ_=>Qf) a' w'):
  KJ (KG Tryz.prog aa true) 60 (chain cf cl (.bool true) (.bool false) false da.bJ.length (C7 cf (.agg #[.int .i64 0,.int .i64 0,.int .i64 0]) ((eA da db).map wU)) (da.bJ.map λx=>msgs da db x db.bJ),γ) tg (λγ' e a' w'=>γ'.1=.ret/\Qf e a' w') (PO b2 b3 b5 b6 u) w:=by
 have C:=B1 (aa:=aa) (main:=true) hP;have aen:C7 cf (.agg #[.int .i64 0,.int .i64 0,.int .i64 0]) ((eA da db).map wU)≠.ret/\C7 cf (.agg #[.int .i64 0,.int .i64 0,.int .i64 0]) ((eA da db).map wU)≠.stop:=by obtain⟨q,hq⟩:=wR (cf:=cf) (z:=.agg #[.int .i64 0,.int .i64 0,.int .i64 0]) ((eA da db).map wU);rw[hq];simp
 generalize RX:C7 cf (.agg #[.int .i64 0,.int .i64 0,.int .i64 0]) ((eA da db).map wU)=pc at*;show KJ _ _ _ (.seq ahc (.seq aiH (.seq aiG (.seq (.seq agu Wl) I7)))) _ _ _;refine bp C (zn (afu hP xK BR hS hF u) ?_);rintro⟨p',γ'⟩ e a' w' ⟨rfl,uh,C6,hF',-,vl,nl,k,u',rfl⟩;simp only at uh C6 hF';subst uh;unfold KZ;refine bp C (cF C ?_);refine eF C (v:=?v1) rfl (by rfl) (λw=>run_eq_of λK hK=>?r1) (λw=>?e1) ?h1
 case r1=>go_simp;exact hK
 case e1=>simp[go_sem,Instr.makeFunc]
 try walk_nrm
 show KO _ _ (Pc.go (Kk cf cl (.bool false) false da.bJ.length) pc,γ') _ _ _ _ _;refine ac8 (d:=call85 b2 b6 b5) (f:=.func 104) (cap:=#[.pointer (some ⟨b2,0,none⟩),.pointer (some ⟨b6,0,none⟩),.pointer (some ⟨b5,0,none⟩)]) rfl (by rfl) (λw=>?_) (λw=>?_) rfl aen.2 (λ_=>aen.1) (λw9 r9 w10 r10=>?_) (λw9 r9 w10 r10=>?_);simp[execOp,resolve,Act.eval,call85,Deferred.ofValue];simp[execOp,resolve,Act.eval,Deferred.ofValue];have RZ:=((hF'.kept (Kept.rely r9)).give).kept (Kept.rely r10);exact Uh hP xK RZ.wa RZ.f RZ.l;have RZ:=((hF'.kept (Kept.rely r9)).give).kept (Kept.rely r10);have hS9:=((C6.kept (Kept.rely r9)).give).kept (Kept.rely r10);have hf9:=RZ.f;clear hF' C6 RZ;try walk_nrm
 refine aW C ?_;co_then;refine bp C (cF C ?_);refine av C ?_;try walk_nrm
 refine aW C ?_;co_then;refine bp C (bp C (cF C ?_));refine rJ C aen.1 (v:=?v21) rfl (by rfl) (λw₁ h₁=>⟨run_eq_of λK hK=>?r21,?e21⟩) ?h21
 case r21=>have hc:=(bQ.rely hf9 h₁).2;go_simp;exact hK
 case e21=>have hc:=(bQ.rely hf9 h₁).2;intro e he;simp[go_sem,hc]at he;subst he;exact(bQ.rely hf9 h₁).Kj
 try walk_nrm
 refine aW C ?_;co_then;subst RX;refine(?_:∀a',(∃u,a'=PR cf (.slice none 0 0) u)->KJ _ _ _ Wl _ a' _) _ (qE rfl);rintro a' ⟨u2,rfl⟩;refine zn (Y8 hP (E0 xK BR) hS9 u2) ?_;rintro⟨p3,γ3⟩ e a3 w3 hE;have he:=hE.1;have hp3:=hE.2.1;simp only at hp3;subst he;subst hp3;refine(?_:KJ (KG Tryz.prog aa true) 60 (.ret,γ3) I7 (λγ' e a' w'=>γ'.1=.ret/\Qf e a' w') a3 w3);exact YR (zn (hT γ3 a3 w3 hE) λ_ e a w q=>⟨rfl,q⟩)
end Go.Co
namespace Go.Co
open Go Go.Conc Go.Proofs
open Classical
variable {P:Program} {aa:Machine->Trace->Prop} {γ:So} {w:World}
theorem ahS{fn:FuncId}{c:Code}{a:Act}{Q:Gm->Exit->Act->World->Prop}(h:∀w1,jv γ w w1->KJ (jh P aa) fn () c (λ_ e a w'=>∃γ',Q (.bad,γ') e a w') a w1):KJ (Sj P aa) fn (.bad,γ) c Q a w:=by
 intro b k cs hb hk hc _ w1 r;refine h w1 r b k cs hb hk λ_ e a' w' q=>?_;obtain⟨γ',q⟩:=q;have h:=hc _ _ _ _ q;cases e with
 |normal=>exact h rfl w' (iV _ _)
 |exit id=>obtain⟨k',h1,h2⟩:=h;exact⟨k',h1,h2 rfl w' (iV _ _)⟩
 |ret=>exactλtodo=>h todo rfl w' (iV _ _)
 |goto l=>exact h
 |panic ch=>exact h
 |outgrown=>exact h
structure xB (γ:So) (w:World) (cs:Array Value) (d:Wk):Prop where
 cS:cs[2]? =some (.int .i64 d.cS)
 bJ:∃v,cs[3]? =some v/\AG γ w v d.bJ
 up:∀i,i<4->∃v,cs[4+i*2]? =some v/\AG γ w v (d.up i)
 lo:∀i,i<4->∃v,cs[4+i*2+1]? =some v/\AG γ w v (d.lo i)
theorem xB.kept {cs:Array Value}{d:Wk}{γ':So}{w':World}(h:xB γ w cs d)(k:Kept γ w γ' w'):xB γ' w' cs d:=
 ⟨h.cS,h.bJ.imp λ_ ⟨h1,h2⟩=>⟨h1,k.H8 h2⟩,λi hi=>(h.up i hi).imp λ_ ⟨h1,h2⟩=>⟨h1,k.H8 h2⟩,λi hi=>(h.lo i hi).imp λ_ ⟨h1,h2⟩=>⟨h1,k.H8 h2⟩⟩
theorem xB.boxed {cs:Array Value}{d:Wk}{t:TypeId}(h:xB γ w cs d):gJ (γ.more w.heap.size) (w.alloc (.cells cs t)) w.heap.size d:=by have k:=Kept.alloc γ w w.heap.size (.cells cs t);exact⟨bQ.fresh rfl h.cS,h.bJ.imp λ_ ⟨h1,h2⟩=>⟨bQ.fresh rfl h1,k.H8 h2⟩,λi hi=>(h.up i hi).imp λ_ ⟨h1,h2⟩=>⟨bQ.fresh rfl h1,k.H8 h2⟩,λi hi=>(h.lo i hi).imp λ_ ⟨h1,h2⟩=>⟨bQ.fresh rfl h1,k.H8 h2⟩⟩
def Ch(γ:So)(w:World)(c:Nat):Prop:=γ.all c/\w.heap[c]? =some (.chan 0 #[] false 0 0 false)
theorem Ch.lt {c:Nat}(h:Ch γ w c):c<w.heap.size:=(aN.1 h.2).1
theorem Ch.kept {c:Nat}{γ':So}{w':World}(h:Ch γ w c)(k:Kept γ w γ' w'):Ch γ' w' c:=⟨k.all h.1,(k.blk c h.1 h.lt).trans h.2⟩
def Shr(w:World)(cf cl:Nat):So:=(λb=>b<w.heap.size/\b≠cf/\b≠cl,λ_=>False)
theorem bQ.shr {cf cl:Nat}{ad:Addr}{v:Value}(hf:Ch γ w cf)(hl:Ch γ w cl)(h:bQ γ w ad v):bQ (Shr w cf cl) w ad v:=by
 refine⟨.inl ⟨h.lt,λe=>?_,λe=>?_⟩,h.2⟩;have:=h.2;simp[World.cell?,e,hf.2]at this
 have:=h.2;simp[World.cell?,e,hl.2]at this
theorem AG.shr {cf cl:Nat}{v:Value}{l:br}(hf:Ch γ w cf)(hl:Ch γ w cl)(h:AG γ w v l):AG (Shr w cf cl) w v l:=by obtain⟨A,cap,rfl,h⟩:=h;exact⟨A,cap,rfl,λi x hx=>by obtain⟨ad,h1,h2⟩:=h i x hx;exact⟨ad,h1,h2.shr hf hl⟩⟩
theorem gJ.shr {cf cl b:Nat}{d:Wk}(hf:Ch γ w cf)(hl:Ch γ w cl)(h:gJ γ w b d):gJ (Shr w cf cl) w b d:=
 ⟨h.cS.shr hf hl,h.bJ.imp λ_ ⟨h1,h2⟩=>⟨h1.shr hf hl,h2.shr hf hl⟩,λi hi=>(h.up i hi).imp λ_ ⟨h1,h2⟩=>⟨h1.shr hf hl,h2.shr hf hl⟩,λi hi=>(h.lo i hi).imp λ_ ⟨h1,h2⟩=>⟨h1.shr hf hl,h2.shr hf hl⟩⟩
def Old(A:Nat->Prop)(B0:Nat)(w0 w:World):Prop:=(∀b,A b->w.heap[b]? =w0.heap[b]?)/\B0<=w.heap.size/\w.os=w0.os/\w.output=w0.output
def Xk(aa:Machine->Trace->Prop)(R:List Sm):Prop:=∀A B0 w0 γ' a' w',aeL A B0 w0 R (.ret,γ') .normal a' w'->
 KJ (jh Tryz.prog aa) 60 () I7 (λ_ e a w=>e=.ret/\a.defers=[]/\Old A B0 w0 w/\w.ownsRow B0 79 3 (a.tmps.getD 4 undef) R.length (R.flatMap sX)) a' w'
theorem ab7:(Tryz.prog.info? 136).map (λi=>(i.zero,i.size,i.bytes))=some (some (.chan none),1,8):=by kernel_rfl
theorem ab6:(Tryz.prog.info? 137).map (λi=>(i.zero,i.size,i.bytes))=some (some (.chan none),1,8):=by kernel_rfl
theorem MO(hP:Plain Tryz.prog){ca cb:Array Value}{da db:Wk}(xK:da.ok)(BR:db.ok)(hva:xB γ w ca da)(hvb:xB γ w cb db)(hT:Xk aa (eA da db)):
  za (Sj Tryz.prog aa) Tryz.prog (.bad,γ) 60 #[.agg ca,.agg cb] w λγ' v w'=>γ'.1=.bad/\Kept γ w γ'.2 w'/\mC γ'.2 w' w.heap.size 79 3 v (eA da db).length ((eA da db).flatMap sX):=by
 have C:=ab3 (aa:=aa) hP;have hp:Pc.bad≠Pc.ret:=ae
 obtain⟨i71,h71,-,-,b71⟩:=info_parts Oh;obtain⟨i4,h4,-,-,b4⟩:=info_parts ac9;obtain⟨i138,ajV,z138,-,-⟩:=info_parts ab7;obtain⟨i139,ajU,z139,-,-⟩:=info_parts ab6;refine EE Tryz.func60 (by rfl) rfl ?_;simp only[Tryz.ntmps60,mO,di,lB,Nat.reduceAdd,Nat.reduceSub,Array.replicate_succ,Array.replicate_zero,List.push_toArray,List.append_toArray,jq,pq];show KJ _ _ _ (.seq (.region _ _ false) (.seq (.region _ _ false) (.seq (.region _ _ false) tg))) _ _ _;refine bp C (cF C ?_);refine rK C hp (ob:=?ob1) rfl (by rfl) (λw=>run_eq_of λK hK=>?r1) (λw=>?e1) ?h1
 case r1=>go_simp;exact hK
 case e1=>simp[go_sem]
 intro w1 UK;try walk_nrm
 have vU:=(Kept.rely UK).trans (Kept.alloc γ w1 w1.heap.size (.cells ca 94));have Zv:gJ (γ.more w1.heap.size) (w1.alloc (.cells ca 94)) w1.heap.size da:=(hva.kept (Kept.rely UK)).boxed;have agH:=hvb.kept vU;generalize w1.alloc (.cells ca 94)=W1 at*;generalize γ.more w1.heap.size=γ1 at*;generalize w1.heap.size=b2 at*;clear UK;refine rK C hp (ob:=?ob2) rfl (by rfl) (λw=>run_eq_of λK hK=>?r2) (λw=>?e2) ?h2
 case r2=>go_simp;exact hK
 case e2=>simp[go_sem]
 intro w2 Un;try walk_nrm
 have KD:=(Kept.rely Un).trans (Kept.alloc γ1 w2 w2.heap.size (.cells cb 94));have Ku:gJ (γ1.more w2.heap.size) (w2.alloc (.cells cb 94)) w2.heap.size db:=(agH.kept (Kept.rely Un)).boxed;have Pu:=Zv.kept KD;have Nc:=vU.trans KD;generalize w2.alloc (.cells cb 94)=W2 at*;generalize γ1.more w2.heap.size=γ2 at*;generalize w2.heap.size=b3 at*;clear Un KD vU Zv agH;refine av C ?_;try walk_nrm
 refine aW C ?_;co_then;have hk:=Nc;have ha:=Pu;have hb:=Ku;clear Nc Pu Ku;refine bp C (cF C ?_);refine IX C hp (f:=λn=>.chan (some n)) (ob:=.chan 0 #[] false 0 0 false) rfl (by rfl) (λw=>?_) (λw=>?_) ?_;have h:(Instr.makeChan 136 (.int .i64 0)).run Tryz.prog w=_:=run_makeChan (P:=Tryz.prog) (w:=w) Tryz.underlying136 h71 .i64 0 ab (by rw[b71];omega);simp[execOp,Act.eval,h];have h:(Instr.makeChan 136 (.int .i64 0)).events Tryz.prog w #[]=_:=events_makeChan (P:=Tryz.prog) (w:=w) Tryz.underlying136 h71 .i64 0 ab (by rw[b71];omega) #[];simp[execOp,Act.eval,h];intro ZI adY;try walk_nrm
 have yL:=(Kept.rely adY).trans (Kept.alloc _ ZI ZI.heap.size (.chan 0 #[] false 0 0 false));have hcf:Ch (So.more γ2 ZI.heap.size) (ZI.alloc (.chan 0 #[] false 0 0 false)) ZI.heap.size:=⟨.inr (.inr rfl),heap_alloc_new ZI _⟩;have akh:w.heap.size<=ZI.heap.size:=bt hk.size adY.1
 replace hk:=hk.trans yL
 replace ha:=ha.kept yL
 replace hb:=hb.kept yL
 generalize ZI.alloc (.chan 0 #[] false 0 0 false)=Wpa at*;generalize ZI.heap.size=cf at*;generalize So.more γ2 cf=γpa at*;clear yL adY;refine rK C hp (ob:=.cells #[.chan none] 136) rfl (by rfl) (λw=>run_eq_of λK hK=>?r4) (λw=>?e4) ?h4
 case r4=>go_simp;exact hK
 case e4=>simp[execOp,Instr.alloc,zeroValue,typeInfo,ajV,z138,newVar,newRow]
 intro UG adX;try walk_nrm
 have yL:=(Kept.rely adX).trans (Kept.alloc _ UG UG.heap.size (.cells #[.chan none] 136));have hz:(UG.alloc (.cells #[.chan none] 136)).frozen? ⟨UG.heap.size,0,none⟩=false:=World.frozen?_alloc_new _ _ _ _;have hs:bQ _ _ ⟨UG.heap.size,0,none⟩ (.chan none):=bQ.fresh (γ:=γpa) (w:=UG) (cs:=#[.chan none]) (t:=136) rfl rfl;have hO:(So.more γpa UG.heap.size).2 UG.heap.size:=.inr rfl;have FG:Wpa.heap.size<=UG.heap.size:=adX.1;generalize UG.alloc (.cells #[.chan none] 136)=Wpb at*;generalize UG.heap.size=b5 at*;generalize So.more γpa b5=γpb at*;clear adX;refine Oe C hp (ad:=⟨b5,0,none⟩) (v:=.chan (some cf)) rfl (by rfl) hO (λw₁ h₁=>⟨?_,?_⟩) ?_;have hc:=(hs.rely h₁).2;have Ur:w₁.frozen? ⟨b5,0,none⟩=false:=(World.frozen?_of_block (h₁.2.1 b5 (.inr hO))).trans hz;refine(?_:∀K:Result Next->Prop,K (.ok .skip (w₁.setCell ⟨b5,0,none⟩ (.chan (some cf))))->K _) (·=_) rfl;intro K hK
 go_simp
 try(unfold stored;go_simp)
 exact hK;have hc:=(hs.rely h₁).2;have Ur:w₁.frozen? ⟨b5,0,none⟩=false:=(World.frozen?_of_block (h₁.2.1 b5 (.inr hO))).trans hz;intro e he;simp[go_sem,hc,Ur]at he;exact he;intro wpc adW;try walk_nrm
 replace yL:=(yL.trans (Kept.rely adW)).put (ad:=⟨b5,0,none⟩) (v:=.chan (some cf)) FG
 have hb5:bQ γpb (wpc.setCell ⟨b5,0,none⟩ (.chan (some cf))) ⟨b5,0,none⟩ (.chan (some cf)):=⟨.inr hO,World.cell?_setCell_same _ _ _ (hs.rely adW).2⟩;generalize wpc.setCell ⟨b5,0,none⟩ (.chan (some cf))=Wpc at*
 replace hk:=hk.trans yL
 replace hcf:=hcf.kept yL
 replace ha:=ha.kept yL
 replace hb:=hb.kept yL
 clear yL hs hz FG hO adW;refine aW C ?_;co_then;refine bp C (cF C ?_);refine IX C hp (f:=λn=>.chan (some n)) (ob:=.chan 0 #[] false 0 0 false) rfl (by rfl) (λw=>?_) (λw=>?_) ?_;have h:(Instr.makeChan 137 (.int .i64 0)).run Tryz.prog w=_:=run_makeChan (P:=Tryz.prog) (w:=w) Tryz.underlying137 h4 .i64 0 ab (by rw[b4];omega);simp[execOp,Act.eval,h];have h:(Instr.makeChan 137 (.int .i64 0)).events Tryz.prog w #[]=_:=events_makeChan (P:=Tryz.prog) (w:=w) Tryz.underlying137 h4 .i64 0 ab (by rw[b4];omega) #[];simp[execOp,Act.eval,h];intro Zk aaf;try walk_nrm
 have hne:cf≠Zk.heap.size:=Nat.ne_of_lt (hcf.kept (Kept.rely aaf)).lt;have yL:=(Kept.rely aaf).trans (Kept.alloc _ Zk Zk.heap.size (.chan 0 #[] false 0 0 false));have sV:Ch (So.more γpb Zk.heap.size) (Zk.alloc (.chan 0 #[] false 0 0 false)) Zk.heap.size:=⟨.inr (.inr rfl),heap_alloc_new Zk _⟩;have akg:w.heap.size<=Zk.heap.size:=bt hk.size aaf.1
 replace hk:=hk.trans yL
 replace ha:=ha.kept yL
 replace hb:=hb.kept yL
 replace hcf:=hcf.kept yL
 replace hb5:=(yL.sees hb5)
 generalize Zk.alloc (.chan 0 #[] false 0 0 false)=Wqa at*;generalize Zk.heap.size=cl at*;generalize So.more γpb cl=γqa at*;clear yL aaf;refine rK C hp (ob:=.cells #[.chan none] 137) rfl (by rfl) (λw=>run_eq_of λK hK=>?r5) (λw=>?e5) ?h5
 case r5=>go_simp;exact hK
 case e5=>simp[execOp,Instr.alloc,zeroValue,typeInfo,ajU,z139,newVar,newRow]
 intro UF adV;try walk_nrm
 have yL:=(Kept.rely adV).trans (Kept.alloc _ UF UF.heap.size (.cells #[.chan none] 137));have hz:(UF.alloc (.cells #[.chan none] 137)).frozen? ⟨UF.heap.size,0,none⟩=false:=World.frozen?_alloc_new _ _ _ _;have hs:bQ _ _ ⟨UF.heap.size,0,none⟩ (.chan none):=bQ.fresh (γ:=γqa) (w:=UF) (cs:=#[.chan none]) (t:=137) rfl rfl;have hO:(So.more γqa UF.heap.size).2 UF.heap.size:=.inr rfl;have FG:Wqa.heap.size<=UF.heap.size:=adV.1;generalize UF.alloc (.cells #[.chan none] 137)=Wqb at*;generalize UF.heap.size=b6 at*;generalize So.more γqa b6=γqb at*;clear adV;refine Oe C hp (ad:=⟨b6,0,none⟩) (v:=.chan (some cl)) rfl (by rfl) hO (λw₁ h₁=>⟨?_,?_⟩) ?_;have hc:=(hs.rely h₁).2;have Ur:w₁.frozen? ⟨b6,0,none⟩=false:=(World.frozen?_of_block (h₁.2.1 b6 (.inr hO))).trans hz;refine(?_:∀K:Result Next->Prop,K (.ok .skip (w₁.setCell ⟨b6,0,none⟩ (.chan (some cl))))->K _) (·=_) rfl;intro K hK
 go_simp
 try(unfold stored;go_simp)
 exact hK;have hc:=(hs.rely h₁).2;have Ur:w₁.frozen? ⟨b6,0,none⟩=false:=(World.frozen?_of_block (h₁.2.1 b6 (.inr hO))).trans hz;intro e he;simp[go_sem,hc,Ur]at he;exact he;intro wqc adU;try walk_nrm
 replace yL:=(yL.trans (Kept.rely adU)).put (ad:=⟨b6,0,none⟩) (v:=.chan (some cl)) FG
 have hb6:bQ γqb (wqc.setCell ⟨b6,0,none⟩ (.chan (some cl))) ⟨b6,0,none⟩ (.chan (some cl)):=⟨.inr hO,World.cell?_setCell_same _ _ _ (hs.rely adU).2⟩;generalize wqc.setCell ⟨b6,0,none⟩ (.chan (some cl))=Wqc at*
 replace hk:=hk.trans yL
 replace sV:=sV.kept yL
 replace ha:=ha.kept yL
 replace hb:=hb.kept yL
 replace hcf:=hcf.kept yL
 replace hb5:=(yL.sees hb5)
 clear yL hs hz FG hO adU;refine aW C ?_;co_then;refine ahS λw1 r1=>?_;have hkr:=Kept.rely r1;have Vm:=hcf.kept hkr;have Vl:=sV.kept hkr;have vU:=hk.trans hkr;have hS:Kw (λb=>γ.all b/\b<w.heap.size) w.heap.size w (Shr w1 cf cl) w1:=
  ⟨λb h=>h.2,λb h=>.inl ⟨dD h.2 vU.size,by have:=h.2;omega,by have:=h.2;omega⟩,λb h=>vU.blk b h.1 h.2,vU.size,vU.env⟩
 refine(?_:∀a',(∃u,a'=PO b2 b3 b5 b6 u)->KJ _ _ _ tg _ a' _) _ (qE rfl);rintro a' ⟨u,rfl⟩;have hW:∀n,0<n->DD (λc=>c=cf\/c=cl) (entry n (chain cf cl (.bool true) (.bool false) false da.bJ.length (C7 cf (.agg #[.int .i64 0,.int .i64 0,.int .i64 0]) ((eA da db).map wU)) (da.bJ.map λx=>msgs da db x db.bJ))):=by
  intro n hn;have h:=MG (tv:=.bool true) (z:=.agg #[.int .i64 0,.int .i64 0,.int .i64 0]) (z2:=.bool false) (rR:=false) hne (da.bJ.map λx=>msgs da db x db.bJ) hn
  rwa [List.length_map,ace]at h
 have oq:(chain cf cl (.bool true) (.bool false) false da.bJ.length (C7 cf (.agg #[.int .i64 0,.int .i64 0,.int .i64 0]) ((eA da db).map wU)) (da.bJ.map λx=>msgs da db x db.bJ)).live:=by obtain⟨x,y,h⟩:=M6 (cf:=cf) (cl:=cl) (tv:=.bool true) (z2:=.bool false) (rR:=false) da.bJ.length (C7 cf (.agg #[.int .i64 0,.int .i64 0,.int .i64 0]) ((eA da db).map wU)) (da.bJ.map λx=>msgs da db x db.bJ);rw[h];exact⟨ae,ae,ae⟩
 refine YQ hP (Cs:=λc=>c=cf\/c=cl) (S:=(Shr w1 cf cl).1) (O:=(Shr w1 cf cl).2) oq (λb h=>h.elim) (λb h=>h.elim (·.1) (·.elim)) (λc hc=>?_) hW
  (abF hP xK BR hS ⟨(ha.kept hkr).shr Vm Vl,(hb.kept hkr).shr Vm Vl,(hkr.sees hb5).shr Vm Vl,(hkr.sees hb6).shr Vm Vl⟩ u (λγ' a' w' hE=>zn (hT _ _ _ γ' a' w' hE) ?_))
 rcases hc with rfl|rfl;exact⟨⟨0,false,Vm.2⟩,λh=>h.2.1 rfl,λh=>h⟩;exact⟨⟨0,false,Vl.2⟩,λh=>h.2.2 rfl,λh=>h⟩;rintro _ e a3 w3 ⟨rfl,hd,hold,gC⟩;exact⟨(γ.1,λb=>γ.2 b\/(w.heap.size<=b/\b<w3.heap.size)),hd,a3.tmps.getD 4 undef,resultsC_tmp Tryz.results60 _,rfl,
  ⟨rfl,λ_ h=>.inl h,λb hb hlt=>hold.1 b ⟨hb,hlt⟩,hold.2.1,hold.2.2⟩,⟨gC,λb hb=>.inr (gC.lt b hb)⟩⟩
end Go.Co
namespace Go.Proofs
open Go.Shelf Go.RowKit Go.Lib Go.Sort
def Tryz.JX:Go.Shelf.Ren:=⟨λ|6=>105|15=>128|14=>129|28=>143|29=>144|20=>145|21=>146|22=>147|23=>148|24=>149|25=>150|26=>151|27=>152|46=>159|47=>155|48=>156|49=>160|50=>161|57=>163|n=>n,λ|22=>34|24=>79|25=>140|3=>3|39=>87|0=>0|53=>182|55=>83|4=>4|46=>175|45=>174|50=>179|5=>5|9=>9|66=>189|70=>192|76=>196|77=>163|n=>n,λ|n=>n⟩
theorem Tryz.Lt:Go.Proofs.SlLaysF0.n6 Tryz.prog Tryz.JX:={
 mixed:=by kernel_rfl
 f6:=⟨Tryz.f105.name,an,Tryz.func105.trans (congrArg some (by kernel_rfl))⟩
 f14:=⟨Tryz.f129.name,an,Tryz.func129.trans (congrArg some (by kernel_rfl))⟩
 f15:=Tryz.func128.trans (congrArg some (by kernel_rfl))
 f20:=⟨Tryz.f145.name,an,Tryz.func145.trans (congrArg some (by kernel_rfl))⟩
 f21:=⟨Tryz.f146.name,an,Tryz.func146.trans (congrArg some (by kernel_rfl))⟩
 f22:=⟨Tryz.f147.name,an,Tryz.func147.trans (congrArg some (by kernel_rfl))⟩
 f23:=⟨Tryz.f148.name,an,Tryz.func148.trans (congrArg some (by kernel_rfl))⟩
 f24:=⟨Tryz.f149.name,an,Tryz.func149.trans (congrArg some (by kernel_rfl))⟩
 f25:=⟨Tryz.f150.name,an,Tryz.func150.trans (congrArg some (by kernel_rfl))⟩
 f26:=⟨Tryz.f151.name,an,Tryz.func151.trans (congrArg some (by kernel_rfl))⟩
 f27:=⟨Tryz.f152.name,an,Tryz.func152.trans (congrArg some (by kernel_rfl))⟩
 f28:=Tryz.func143.trans (congrArg some (by kernel_rfl))
 f29:=Tryz.func144.trans (congrArg some (by kernel_rfl))
 f46:=⟨Tryz.f159.name,an,Tryz.func159.trans (congrArg some (by kernel_rfl))⟩
 f47:=Tryz.func155.trans (congrArg some (by kernel_rfl))
 f48:=Tryz.func156.trans (congrArg some (by kernel_rfl))
 f49:=⟨Tryz.f160.name,an,Tryz.func160.trans (congrArg some (by kernel_rfl))⟩
 f50:=⟨Tryz.f161.name,an,Tryz.func161.trans (congrArg some (by kernel_rfl))⟩
 f57:=⟨Tryz.f163.name,an,Tryz.func163.trans (congrArg some (by kernel_rfl))⟩
 t0:=Tryz.underlying0
 a0:=Tryz.isAgg0
 z0:=Tryz.sizeOf0
 v0:=Tryz.zeroValue0
 t3:=Tryz.underlying3
 a3:=Tryz.isAgg3
 z3:=Tryz.sizeOf3
 v3:=Tryz.zeroValue3
 t4:=Tryz.underlying4
 a4:=Tryz.isAgg4
 z4:=Tryz.sizeOf4
 v4:=Tryz.zeroValue4
 t5:=Tryz.underlying5
 a5:=Tryz.isAgg5
 z5:=Tryz.sizeOf5
 v5:=Tryz.zeroValue5
 t9:=Tryz.underlying9
 a9:=Tryz.isAgg9
 z9:=Tryz.sizeOf9
 v9:=Tryz.zeroValue9
 t22:=Tryz.underlying34
 a22:=Tryz.isAgg34
 z22:=Tryz.sizeOf34
 v22:=Tryz.zeroValue34
 t25:=Tryz.underlying140
 a25:=Tryz.isAgg140
 z25:=Tryz.sizeOf140
 v25:=Tryz.zeroValue140
 t39:=Tryz.underlying87
 a39:=Tryz.isAgg87
 z39:=Tryz.sizeOf87
 v39:=Tryz.zeroValue87
 t45:=Tryz.underlying174
 a45:=Tryz.isAgg174
 z45:=Tryz.sizeOf174
 v45:=Tryz.zeroValue174
 t46:=Tryz.underlying175
 a46:=Tryz.isAgg175
 z46:=Tryz.sizeOf175
 v46:=Tryz.zeroValue175
 t50:=Tryz.underlying179
 a50:=Tryz.isAgg179
 z50:=Tryz.sizeOf179
 v50:=Tryz.zeroValue179
 t53:=Tryz.underlying182
 a53:=Tryz.isAgg182
 z53:=Tryz.sizeOf182
 v53:=Tryz.zeroValue182
 t55:=Tryz.underlying83
 a55:=Tryz.isAgg83
 z55:=Tryz.sizeOf83
 v55:=Tryz.zeroValue83
 t66:=Tryz.underlying189
 a66:=Tryz.isAgg189
 z66:=Tryz.sizeOf189
 v66:=Tryz.zeroValue189
 t70:=Tryz.underlying192
 a70:=Tryz.isAgg192
 z70:=Tryz.sizeOf192
 v70:=Tryz.zeroValue192
 t76:=Tryz.underlying196
 a76:=Tryz.isAgg196
 z76:=Tryz.sizeOf196
 v76:=Tryz.zeroValue196
 t77:=Tryz.underlying163
 a77:=Tryz.isAgg163
 z77:=Tryz.sizeOf163
 v77:=Tryz.zeroValue163}
def Tryz.Pe:Go.Shelf.Ren:=⟨λ|5=>108|7=>130|n=>n,λ|22=>3|3=>3|4=>4|n=>n,λ|n=>n⟩
theorem Tryz.age:Go.Proofs.SlLaysC2.n5 Tryz.prog Tryz.Pe:={
 mixed:=by kernel_rfl
 f5:=⟨Tryz.f108.name,an,Tryz.func108.trans (congrArg some (by kernel_rfl))⟩
 f7:=⟨Tryz.f130.name,an,Tryz.func130.trans (congrArg some (by kernel_rfl))⟩
 t3:=Tryz.underlying3
 a3:=Tryz.isAgg3
 z3:=Tryz.sizeOf3
 v3:=Tryz.zeroValue3
 t4:=Tryz.underlying4
 a4:=Tryz.isAgg4
 z4:=Tryz.sizeOf4
 v4:=Tryz.zeroValue4
 t22:=Tryz.underlying3
 a22:=Tryz.isAgg3
 z22:=Tryz.sizeOf3
 v22:=Tryz.zeroValue3}
theorem Tryz.aiC (x y:Int)(w:World):Calls Tryz.prog 108 #[.int .i64 x,.int .i64 y] w λe w'=>e=.returned (.int .i64 (Lib.compareInt x y))/\w'=w:=by have h:=AnyG.cmp_Compare_int Tryz.age x y w;exact h
def ZO(a b c:Int):Int:=if a=0 then if b=0 then c else b else a
theorem Tryz.ai6 (a b c:Int)(n:Nat)(w:World)(h0:w.cell? ⟨n,0,none⟩=some (.int .i64 a))(h1:w.cell? ⟨n,1,none⟩=some (.int .i64 b))(h2:w.cell? ⟨n,2,none⟩=some (.int .i64 c)):
  Calls Tryz.prog 107 #[.slice (some ⟨n,0,none⟩) 3 3] w λe w'=>e=.returned (.int .i64 (ZO a b c))/\w'=w:=by
 have hr:(a≠0->ZO a b c=a)/\(a=0->b≠0->ZO a b c=b)/\(a=0->b=0->ZO a b c=c):=by
  refine⟨λh=>if_neg h,λh h'=>?_,λh h'=>?_⟩;unfold ZO;rw[if_pos h,if_neg h']
  unfold ZO;rw[if_pos h,if_pos h']
 generalize ZO a b c=r at hr⊢
 go_enter Tryz.func107,Tryz.ntmps107
 go_wp2
 go_loop [5,8] (λ_ i=>∃k:Nat,k<=3/\i=.int .i64 k/\(1<=k->a=0)/\(2<=k->b=0)/\(3<=k->c=0)) (λ_ i=>3-(intOf i).toNat)
 case atStart=>exact⟨0,ab,rfl,ab,ab,ab⟩
 case round=>
  obtain⟨k,hk,rfl,ha,hb,hc⟩:=hrel;have af6:k=0\/k=1\/k=2\/k=3:=ab
  rcases af6 with rfl|rfl|rfl|rfl
  .clear ha hb hc;by_cases hz:a=0
   .subst hz
    go_wp2
    go_round
    case rel=>exact⟨1,ab,by go_num,ae,ab,ab⟩
    case measure=>simp[intOf]
   have hra:=hr.1 hz;clear hr;subst hra
   go_wp2
   go_ret
   exact⟨rfl,rfl⟩
  .have ha:=ha ab;subst ha;clear hb hc h0;by_cases hz:b=0
   .subst hz
    go_wp2
    go_round
    case rel=>exact⟨2,ab,by go_num,ae,ae,ab⟩
    case measure=>simp[intOf]
   have hra:=hr.2.1 rfl hz;clear hr;subst hra
   go_wp2
   go_ret
   exact⟨rfl,rfl⟩
  .have ha:=ha ab;have hb:=hb ab;subst ha;subst hb;clear hc h0 h1;by_cases hz:c=0
   .subst hz
    go_wp2
    go_round
    case rel=>exact⟨3,ab,by go_num,ae,ae,ae⟩
    case measure=>simp[intOf]
   have hra:=hr.2.2 rfl rfl;clear hr;subst hra
   go_wp2
   go_ret
   exact⟨rfl,rfl⟩
  have ha:=ha ab;have hb:=hb ab;have hc:=hc ab;have hra:=hr.2.2 ha hb;subst ha;subst hb;subst hc;clear hr h0 h1 h2;subst hra
  go_wp2
  go_ret
  exact⟨rfl,rfl⟩
def yZ(x y:Int×Int×Int):Int:=ZO (Lib.compareInt x.1 y.1) (Lib.compareInt x.2.1 y.2.1) (Lib.compareInt x.2.2 y.2.2)
theorem Tryz.Ug (x y:Int×Int×Int)(W:World):Calls Tryz.prog 106 #[.agg #[.int .i64 x.1,.int .i64 x.2.1,.int .i64 x.2.2],.agg #[.int .i64 y.1,.int .i64 y.2.1,.int .i64 y.2.2]] W λe w'=>e=.returned (.int .i64 (yZ x y))/\∃q os',w'=grow (W.drewN q) os':=by
 obtain⟨x1,x2,x3⟩:=x;obtain⟨y1,y2,y3⟩:=y;have Sf:=Tryz.aiC;unfold yZ;simp only;have hA:=Sf x1 y1;have hB:=Sf x2 y2;have hC:=Sf x3 y3;clear Sf;generalize Lib.compareInt x1 y1=A at*;generalize Lib.compareInt x2 y2=B at*;generalize Lib.compareInt x3 y3=C at*
 go_enter Tryz.func106,Tryz.ntmps106
 go_wp2
 refine wp_region_still_tail 15 (by kernel_rfl) (by kernel_rfl) ?_;simp only[List.take_succ_cons,List.take_zero,List.drop_succ_cons,pn];have a1:((W.alloc (.cells #[.int .i64 x1,.int .i64 x2,.int .i64 x3] 79)).alloc (.cells #[.int .i64 y1,.int .i64 y2,.int .i64 y3] 79)).drew.cell? ⟨W.heap.size,0,none⟩=some (.int .i64 x1):=by refine(World.cell?_alloc_lt _ _ _ ae).trans ?_;rw[World.cell?_alloc_new];rfl
 have a2:((W.alloc (.cells #[.int .i64 x1,.int .i64 x2,.int .i64 x3] 79)).alloc (.cells #[.int .i64 y1,.int .i64 y2,.int .i64 y3] 79)).drew.cell? ⟨W.heap.size,1,none⟩=some (.int .i64 x2):=by refine(World.cell?_alloc_lt _ _ _ ae).trans ?_;rw[World.cell?_alloc_new];rfl
 have a3:((W.alloc (.cells #[.int .i64 x1,.int .i64 x2,.int .i64 x3] 79)).alloc (.cells #[.int .i64 y1,.int .i64 y2,.int .i64 y3] 79)).drew.cell? ⟨W.heap.size,2,none⟩=some (.int .i64 x3):=by refine(World.cell?_alloc_lt _ _ _ ae).trans ?_;rw[World.cell?_alloc_new];rfl
 have b1:((W.alloc (.cells #[.int .i64 x1,.int .i64 x2,.int .i64 x3] 79)).alloc (.cells #[.int .i64 y1,.int .i64 y2,.int .i64 y3] 79)).drew.cell? ⟨W.heap.size+1,0,none⟩=some (.int .i64 y1):=by have h:=World.cell?_alloc_new (W.alloc (.cells #[.int .i64 x1,.int .i64 x2,.int .i64 x3] 79)) #[.int .i64 y1,.int .i64 y2,.int .i64 y3] 79 0;rw[show(W.alloc (.cells #[.int .i64 x1,.int .i64 x2,.int .i64 x3] 79)).heap.size=W.heap.size+1 by simp]at h;exact h.trans rfl
 have b2:((W.alloc (.cells #[.int .i64 x1,.int .i64 x2,.int .i64 x3] 79)).alloc (.cells #[.int .i64 y1,.int .i64 y2,.int .i64 y3] 79)).drew.cell? ⟨W.heap.size+1,1,none⟩=some (.int .i64 y2):=by have h:=World.cell?_alloc_new (W.alloc (.cells #[.int .i64 x1,.int .i64 x2,.int .i64 x3] 79)) #[.int .i64 y1,.int .i64 y2,.int .i64 y3] 79 1;rw[show(W.alloc (.cells #[.int .i64 x1,.int .i64 x2,.int .i64 x3] 79)).heap.size=W.heap.size+1 by simp]at h;exact h.trans rfl
 have b3:((W.alloc (.cells #[.int .i64 x1,.int .i64 x2,.int .i64 x3] 79)).alloc (.cells #[.int .i64 y1,.int .i64 y2,.int .i64 y3] 79)).drew.cell? ⟨W.heap.size+1,2,none⟩=some (.int .i64 y3):=by have h:=World.cell?_alloc_new (W.alloc (.cells #[.int .i64 x1,.int .i64 x2,.int .i64 x3] 79)) #[.int .i64 y1,.int .i64 y2,.int .i64 y3] 79 2;rw[show(W.alloc (.cells #[.int .i64 x1,.int .i64 x2,.int .i64 x3] 79)).heap.size=W.heap.size+1 by simp]at h;exact h.trans rfl
 have hg:((W.alloc (.cells #[.int .i64 x1,.int .i64 x2,.int .i64 x3] 79)).alloc (.cells #[.int .i64 y1,.int .i64 y2,.int .i64 y3] 79)).drew=grow (W.drewN 1) (#[.cells #[.int .i64 x1,.int .i64 x2,.int .i64 x3] 79]++#[.cells #[.int .i64 y1,.int .i64 y2,.int .i64 y3] 79]):=by rw[alloc_eq_grow,alloc_eq_grow,grow_grow];rfl
 change wpStill _ _ ((W.alloc (.cells #[.int .i64 x1,.int .i64 x2,.int .i64 x3] 79)).alloc (.cells #[.int .i64 y1,.int .i64 y2,.int .i64 y3] 79)).drew (λa'=>wpList _ _ _ _ a' ((W.alloc (.cells #[.int .i64 x1,.int .i64 x2,.int .i64 x3] 79)).alloc (.cells #[.int .i64 y1,.int .i64 y2,.int .i64 y3] 79)).drew) _ _;generalize((W.alloc (.cells #[.int .i64 x1,.int .i64 x2,.int .i64 x3] 79)).alloc (.cells #[.int .i64 y1,.int .i64 y2,.int .i64 y3] 79)).drew=W2 at*;have HG:=Lib.hid hg;clear hg;repeat still_step
 still_call (hA _)
 repeat still_step
 still_call (hB _)
 repeat still_step
 still_call (hC _)
 repeat still_step
 refine wpStill_nil ?_;clear a1 a2 a3 b1 b2 b3 hA hB hC;have c0:(W2.alloc (.cells #[.int .i64 A,.int .i64 B,.int .i64 C] 3)).cell? ⟨W2.heap.size,0,none⟩=some (.int .i64 A):=by rw[World.cell?_alloc_new];rfl
 have c1:(W2.alloc (.cells #[.int .i64 A,.int .i64 B,.int .i64 C] 3)).cell? ⟨W2.heap.size,1,none⟩=some (.int .i64 B):=by rw[World.cell?_alloc_new];rfl
 have c2:(W2.alloc (.cells #[.int .i64 A,.int .i64 B,.int .i64 C] 3)).cell? ⟨W2.heap.size,2,none⟩=some (.int .i64 C):=by rw[World.cell?_alloc_new];rfl
 have hor:=Tryz.ai6 A B C W2.heap.size _ c0 c1 c2;clear c0 c1 c2
 go_wp2_with (go_at_call 107;refine hor.mono ?_;rintro e w' ⟨rfl,rfl⟩)
 go_ret
 have AW:∃q os',W2.alloc (.cells #[.int .i64 A,.int .i64 B,.int .i64 C] 3)=grow (W.drewN q) os':=
  ⟨1,(#[.cells #[.int .i64 x1,.int .i64 x2,.int .i64 x3] 79]++#[.cells #[.int .i64 y1,.int .i64 y2,.int .i64 y3] 79])++#[.cells #[.int .i64 A,.int .i64 B,.int .i64 C] 3],by rw[alloc_eq_grow,HG.out,grow_grow]⟩
 exact⟨rfl,AW⟩
end Go.Proofs
namespace Go.Co
open Go Go.Conc Go.Proofs Go.Sort Go.Shelf
def Uo(x y:Sm):Prop:=x.1<y.1\/(x.1=y.1/\(x.2.1<y.2.1\/(x.2.1=y.2.1/\x.2.2<y.2.2)))
theorem BJ(x y:Int):(x<y/\Lib.compareInt x y=-1)\/(x=y/\Lib.compareInt x y=0)\/(y<x/\Lib.compareInt x y=1):=by
 unfold Lib.compareInt;by_cases h1:x<y
 grind
 grind
theorem lt_iff(x y:Sm):ltOf yZ x y=true↔Uo x y:=by obtain⟨x1,x2,x3⟩:=x;obtain⟨y1,y2,y3⟩:=y;unfold ltOf yZ ZO Uo;simp only[cA];rcases BJ x1 y1 with ⟨h1,e1⟩|⟨h1,e1⟩|⟨h1,e1⟩<;>rcases BJ x2 y2 with ⟨h2,e2⟩|⟨h2,e2⟩|⟨h2,e2⟩<;>rcases BJ x3 y3 with ⟨h3,e3⟩|⟨h3,e3⟩|⟨h3,e3⟩<;>simp[e1,e2,e3]<;>omega
theorem EB(x y:Sm):ltOf yZ x y=false↔¬Uo x y:=by rw[<-lt_iff];simp
theorem aht:SWO (ltOf yZ) where
 irrefl x:=by rw[EB];unfold Uo;omega
 trans x y z h1 h2:=by rw[lt_iff]at*;unfold Uo at*;omega
 ntrans x y z h1 h2:=by rw[EB]at*;unfold Uo at*;omega
theorem SL{d:Array Sm}{R:List Sm}(hp:d.toList.Perm R)(hs:SortedIn (ltOf yZ) 0 d.size d)(hR:R.Pairwise Uo):d.toList=R:=by
 refine List.Perm.eq_of_pairwise (le:=λx y=>¬Uo y x) (λa b _ _ h1 h2=>?_) ?_ (hR.imp λ{a b} h=>?_) hp;obtain⟨a1,a2,a3⟩:=a;obtain⟨b1,b2,b3⟩:=b;unfold Uo at h1 h2;simp only at h1 h2;have e1:a1=b1:=ab
 have e2:a2=b2:=ab
 have e3:a3=b3:=ab
 rw[e1,e2,e3];rw[List.pairwise_iff_getElem];intro i j hi hj RY;have h:=hs i j (j7 _) RY (by simpa using hj);rw[EB]at h;simp only[zI]at hi hj;rw[tF d i hi,tF d j hj]at h;simpa using h;unfold Uo at*;omega
def ZF(l:br):Prop:=l.Pairwise (·<·)
theorem OD(low up:br)(cS:Int):ZF (oW low up cS):=by unfold ZF oW Um;refine List.Pairwise.filter _ ?_;rw[List.pairwise_map];exact List.pairwise_lt_range.imp λ{a b} h=>ab
theorem SN{da db:Wk}(ha:ZF da.bJ)(hb:ZF db.bJ):(eA da db).Pairwise Uo:=by unfold eA;rw[List.pairwise_flatMap];refine⟨λx _=>?_,ha.imp λ{x x'} h=>?_⟩;rw[List.pairwise_flatMap];refine⟨λy _=>?_,hb.imp λ{y y'} h=>?_⟩;rw[List.pairwise_map];exact(OD _ _ _).imp λ{s s'} h=>.inr ⟨rfl,.inr ⟨rfl,h⟩⟩;intro m hm m' Ks;obtain⟨s,_,rfl⟩:=er.1 hm;obtain⟨s',_,rfl⟩:=er.1 Ks;exact .inr ⟨rfl,.inl h⟩;intro m hm m' Ks;obtain⟨y,_,hm⟩:=rm.1 hm;obtain⟨y',_,Ks⟩:=rm.1 Ks;obtain⟨s,_,rfl⟩:=er.1 hm;obtain⟨s',_,rfl⟩:=er.1 Ks;exact .inl h
theorem HN(d:Array Sm):(flatK sX 3 d).toList=d.toList.flatMap sX:=by
 apply nR;intro t;have hlen:(d.toList.flatMap sX).length=d.size*3:=by rw[Ji];simp
 by_cases ht:t<d.size*3;have h1:=get_flatK sX 3 d t ht;rw[tF _ t (by simpa using ht)]at h1;rw[kg,cD (by simpa using ht),h1];have key:∀(l:List Sm)(t:Nat),t<l.length*3->(l.flatMap sX)[t]? =some ((sX (l[t/3]!))[t % 3]!):=by
  intro l;induction l with
  |nil=>intro t h;simp at h
  |cons m l ih=>
   intro t h;rw[cz];by_cases h3:t<3;have e0:t/3=0:=ab
   have e1:t % 3=t:=ab
   rw[e0,e1,fI (by simpa [sX]using h3)];have:t=0\/t=1\/t=2:=ab
   rcases this with rfl|rfl|rfl<;>rfl;obtain⟨s,rfl⟩:∃s,t=s+3:=⟨t-3,ab⟩;have e0:(s+3)/3=s/3+1:=ab
   have e1:(s+3) % 3=s % 3:=ab
   rw[e0,e1,jr (by simp[sX])];have:=ih s (by simp at h;omega);simpa [sX]using this
 rw[key d.toList t (by simpa using ht)];congr 3;have hd:t/3<d.size:=ab
 rw[tF d _ hd,tF d.toList _ (by simpa using hd)];simp;rw[pH (by simp;omega),pH ab]
theorem OZ{w:World}{g:Nat}{cur:Array Value}{e:TypeId}{d:Array Sm}(hb:w.heap[g]? =some (.cells cur e (0,0)))(ht:cur.toList.take (d.size*3)=d.toList.flatMap sX):HoldsK sX 3 w g 0 d:=by
 intro j hj;rw[size_flatK]at hj;refine⟨?_,by simp[World.frozen?,hb]⟩;have h1:(cur.toList.take (d.size*3))[j]? =(flatK sX 3 d).toList[j]? :=by rw[ht,HN]
 rw[List.getElem?_take_of_lt hj]at h1;simp only[World.cell?,hb,iw];simp only[Option.isSome_none,aK,if_false];rw[<-kg,h1,kg,cD (by simpa using hj),tF _ j (by simpa using hj)];rfl
theorem T9{w:World}{g n:Nat}{os:Array Obj}{cur:Array Value}{e:TypeId}{fr:Nat×Nat}(d:Array Sm)(hb:w.heap[g]? =some (.cells cur e fr)):
  (sortWorldK sX 3 w g 0 n d os).heap[g]? =some (.cells (putCells id 0 (flatK sX 3 d) cur) e fr):=by
 have hg:g<w.heap.size:=(aN.1 hb).1;unfold sortWorldK putRowK;rw[heap_grow_old _ _ (by simpa using hg)];simp[putRow,mapBlock,Sort.ahead,Array.getElem?_modify,hb,onCells]
theorem Ka{w:World}{g n:Nat}{os:Array Obj}(d:Array Sm):w.grownBy (sortWorldK sX 3 w g 0 n d os) (some g):=by unfold sortWorldK putRowK;refine⟨rfl,rfl,rfl,ae,λk hk hne=>?_⟩;rw[heap_grow_old _ _ (by simpa using hk)];have:g≠k:=λe=>hne (by rw[e]);simp[putRow,mapBlock,Sort.ahead,Array.getElem?_modify,this]
theorem J4{w:World}{base g cap n:Nat}{e:TypeId}{os:Array Obj}{cur:Array Value}{d:Array Sm}(uX:base<=g)(hb:w.heap[g]? =some (.cells cur e (0,0)))
  (h1:d.size<=cap) (h2:cap<=maxLen) (h3:cur.size=cap*3):
  (sortWorldK sX 3 w g 0 n d os).ownsRow base e 3 (.slice (some ⟨g,0,none⟩) d.size cap) d.size (d.toList.flatMap sX):=by
 refine⟨by rw[Ji];simp,.inr ⟨g,cap,_,rfl,uX,T9 d hb,h1,h2,by simp[putCells,h3],?_⟩⟩;rw[<-HN];apply nR;intro j;by_cases hj:j<d.size*3;rw[List.getElem?_take_of_lt hj,kg,kg];have hc:j<cur.size:=ab
 simp[putCells,hj,hc];rw[List.getElem?_take_eq_none ab,pH (by simp;omega)]
end Go.Co
namespace Go.Co
open Go Go.Proofs
open Go.Extern.RuntimeError
variable {P:Program}
theorem t_described(v:Value):T1 P (described v):=by
 unfold described
 (repeat' first|exact TC.out|(with_reducible refine aP ?_ (λ_=>?_))|(with_reducible refine jF ?_ ?_)|split|dsimp only)
theorem t_text(s:String):T1 P (text s):=bh trivial
theorem t_pkgpathOf(i:TypeInfo):T1 P (pkgpathOf i):=by
 unfold pkgpathOf
 (repeat' first|exact TC.out|(with_reducible refine aP ?_ (λ_=>?_))|(with_reducible refine jF ?_ ?_)|split|dsimp only)
theorem t_boundsError(args:Array Value):T1 P (boundsError args):=by
 unfold boundsError;rcases args with ⟨_|⟨x,_|⟨y,l⟩⟩⟩;exact aH _
 rotate_left
 exact aH _;cases x<;>try exact aH _
 rename_i cs;rcases cs with ⟨_|⟨a,_|⟨b,_|⟨c,_|⟨d,_|⟨e,l⟩⟩⟩⟩⟩⟩<;>try exact aH _
 cases a<;>try exact aH _
 cases b<;>try exact aH _
 cases c<;>try exact aH _
 cases d<;>try exact aH _
 rename_i k x k1 y signed k2 code;show T1 P (match(if(signed&&decide (x<0))=true then boundsNegErrorFmts else boundsErrorFmts)[code.toNat]? with
  |some fmt=>text ("runtime error: "++(fmt.replace "%x" (toString (if signed=true then x else IntKind.u64.wrap x))).replace "%y" (toString y))
  |none=>stuck "boundsError: no such code")
 split;exact t_text _;exact aH _
theorem t_nothing(args:Array Value):T1 P (nothing args):=bh trivial
theorem t_unhashable(args:Array Value):T1 P (unhashableTypeError args):=by
 unfold unhashableTypeError;rcases args with ⟨_|⟨x,_|⟨y,l⟩⟩⟩;exact aH _
 rotate_left
 exact aH _;cases x<;>try exact aH _
 rename_i cs;rcases cs with ⟨_|⟨a,_|⟨b,l⟩⟩⟩<;>try exact aH _
 refine(?_:T1 P (described a>>=_));refine aP (t_described a) λo=>?_;cases o with
 |none=>exact TC.out
 |some t=>exact t_text _
theorem t_typeAssertion(args:Array Value):T1 P (typeAssertionError args):=by
 unfold typeAssertionError
 (repeat' first|exact TC.out|exact t_text _|exact t_described _|exact t_pkgpathOf _|(with_reducible refine aP ?_ (λ_=>?_))|(with_reducible refine jF ?_ ?_)|split|dsimp only)
theorem fd0:Extern.find Tryz.f0=none:=by kernel_rfl
theorem fd1:Extern.find Tryz.f1=none:=by kernel_rfl
theorem aiz:Extern.find Tryz.f164=some boundsError:=by kernel_rfl
theorem aiy:Extern.find Tryz.f165=some nothing:=by kernel_rfl
theorem aix:Extern.find Tryz.f166=some (λargs=>do pure (.string ("runtime error: ".toUTF8++(<-asString (args.getD 0 (.tuple #[])))))):=by kernel_rfl
theorem aiw:Extern.find Tryz.f167=some nothing:=by kernel_rfl
theorem aiv:Extern.find Tryz.f168=some (λargs=>do pure (.string (<-asString (args.getD 0 (.tuple #[]))))):=by kernel_rfl
theorem aiu:Extern.find Tryz.f169=some nothing:=by kernel_rfl
theorem ait:Extern.find Tryz.f170=some (λargs=>do pure (.string ("runtime error: ".toUTF8++(<-asString ((<-asAgg (args.getD 0 (.tuple #[]))).getD 0 (.tuple #[])))))):=by kernel_rfl
theorem ais:Extern.find Tryz.f171=some nothing:=by kernel_rfl
theorem air:Extern.find Tryz.f172=some typeAssertionError:=by kernel_rfl
theorem aiq:Extern.find Tryz.f173=some nothing:=by kernel_rfl
theorem aip:Extern.find Tryz.f174=some (λ_=>text "runtime error: panic called with nil argument"):=by kernel_rfl
theorem aio:Extern.find Tryz.f175=some nothing:=by kernel_rfl
theorem ain:Extern.find Tryz.f176=none:=by kernel_rfl
theorem aim:Extern.find Tryz.f177=some unhashableTypeError:=by kernel_rfl
theorem ail:Extern.find Tryz.f178=some nothing:=by kernel_rfl
theorem aik:Extern.find Tryz.f179=none:=by kernel_rfl
theorem aij:Extern.find Tryz.f180=some (λargs=>do pure (strVal (Extern.Rtype.kindName (<-asInt (args.getD 0 (.tuple #[]))).toNat))):=by kernel_rfl
theorem ago:(Tryz.prog.funcs.toList.zipIdx.all λ(f,i)=>!f.body.isNone||i==0||i==1||(decide (164<=i)&&decide (i<=180)))=true:=by kernel_rfl
theorem ahu:Tryz.prog.funcs.size=181:=by kernel_rfl
theorem ahP:(Tryz.prog.funcs.toList.all λf=>!f.body.isNone||(Extern.findNext f).isNone)=true:=by kernel_rfl
theorem names:(Tryz.prog.funcs.toList.all λf=>!(f.name=="runtime.NumGoroutine"))=true:=by kernel_rfl
theorem ahR:(Tryz.prog.funcs.toList.all λf=>!f.norace)=true:=by kernel_rfl
theorem Bx{f:FuncId}{fn:Func}(h:Tryz.prog.funcs[f]? =some fn):fn∈Tryz.prog.funcs.toList:=by grind
theorem afM(f:Nat)(h:f=0\/f=1\/(164<=f/\f<=180)):f=0\/f=1\/f=164\/f=165\/f=166\/f=167\/f=168\/f=169\/f=170\/f=171\/f=172\/f=173\/f=174\/f=175\/f=176\/f=177\/f=178\/f=179\/f=180:=ab
theorem lX:Plain Tryz.prog where
 count f fn h:=by have:=aX.1 names fn (Bx h);simpa using this
 quiet f:=by
  cases h:Tryz.prog.funcs[f]? with
  |none=>rfl
  |some fn=>have:=aX.1 ahR fn (Bx h);simpa using this
 next f fn h hb:=by have:=aX.1 ahP fn (Bx h);simpa [hb]using this
 find f fn e h hb he args:=by
  have hlt:f<181:=by rw[<-ahu];exact(aN.1 h).1
  have hz:(fn,f)∈Tryz.prog.funcs.toList.zipIdx:=by grind
  have h1:=aX.1 ago _ hz;have h2:f=0\/f=1\/(164<=f/\f<=180):=by grind
  have pick:∀{i:Nat}{g:Func},f=i->Tryz.prog.funcs[i]? =some g->fn=g:=λhi hg=>by subst hi;rw[hg]at h;exact(cT h).symm
  have agj:f=0\/f=1\/f=164\/f=165\/f=166\/f=167\/f=168\/f=169\/f=170\/f=171\/f=172\/f=173\/f=174\/f=175\/f=176\/f=177\/f=178\/f=179\/f=180:=afM f h2;rcases agj with hi|hi|hi|hi|hi|hi|hi|hi|hi|hi|hi|hi|hi|hi|hi|hi|hi|hi|hi;rw[pick hi Tryz.func0]at he;rw[fd0]at he;cases he
  rw[pick hi Tryz.func1]at he;rw[fd1]at he;cases he
  rw[pick hi Tryz.func164]at he;rw[aiz]at he;cases he;exact t_boundsError _
  rw[pick hi Tryz.func165]at he;rw[aiy]at he;cases he;exact t_nothing _
  .rw[pick hi Tryz.func166]at he;rw[aix]at he;cases he
   (repeat' first|exact TC.out|(with_reducible refine aP ?_ (λ_=>?_))|(with_reducible refine jF ?_ ?_)|split|dsimp only)
  rw[pick hi Tryz.func167]at he;rw[aiw]at he;cases he;exact t_nothing _
  .rw[pick hi Tryz.func168]at he;rw[aiv]at he;cases he
   (repeat' first|exact TC.out|(with_reducible refine aP ?_ (λ_=>?_))|(with_reducible refine jF ?_ ?_)|split|dsimp only)
  rw[pick hi Tryz.func169]at he;rw[aiu]at he;cases he;exact t_nothing _
  .rw[pick hi Tryz.func170]at he;rw[ait]at he;cases he
   (repeat' first|exact TC.out|(with_reducible refine aP ?_ (λ_=>?_))|(with_reducible refine jF ?_ ?_)|split|dsimp only)
  rw[pick hi Tryz.func171]at he;rw[ais]at he;cases he;exact t_nothing _
  rw[pick hi Tryz.func172]at he;rw[air]at he;cases he;exact t_typeAssertion _
  rw[pick hi Tryz.func173]at he;rw[aiq]at he;cases he;exact t_nothing _
  rw[pick hi Tryz.func174]at he;rw[aip]at he;cases he;exact t_text _
  rw[pick hi Tryz.func175]at he;rw[aio]at he;cases he;exact t_nothing _
  rw[pick hi Tryz.func176]at he;rw[ain]at he;cases he
  rw[pick hi Tryz.func177]at he;rw[aim]at he;cases he;exact t_unhashable _
  rw[pick hi Tryz.func178]at he;rw[ail]at he;cases he;exact t_nothing _
  rw[pick hi Tryz.func179]at he;rw[aik]at he;cases he
  rw[pick hi Tryz.func180]at he;rw[aij]at he;cases he
  (repeat' first|exact TC.out|(with_reducible refine aP ?_ (λ_=>?_))|(with_reducible refine jF ?_ ?_)|split|dsimp only)
end Go.Co
namespace Go.Proofs
open Go.Shelf Go.RowKit Go.Lib Go.Sort
theorem Tryz.OY (v:Value)(w:World):Calls Tryz.prog 145 #[.slice none 0 0,.int .i64 0,.int .i64 0,v] w λe w'=>e=.returned (.tuple #[])/\w'=w:=by
 go_enter Tryz.func145,Tryz.ntmps145
 go_wp2
 go_loop [8] (λi=>i=.int .i64 1) (λ_=>0)
 case atStart=>rfl
 case round=>
  subst hrel
  go_wp2
  go_end0
  exact⟨rfl,rfl⟩
theorem Tryz.OP (l:Int)(v:Value)(w:World):Calls Tryz.prog 129 #[.slice none 0 0,.int .i64 0,.int .i64 0,.int .i64 l,v] w λe w'=>e=.returned (.tuple #[])/\w'=w:=by
 have hi:=Tryz.OY v
 go_enter Tryz.func129,Tryz.ntmps129
 go_wp2
 go_loop [1,2] (λa b=>a=.int .i64 0/\b=.int .i64 0) (λ_ _=>0)
 case atStart=>exact⟨rfl,rfl⟩
 case round=>
  obtain⟨rfl,rfl⟩:=hrel
  go_wp2_with (go_at_call 145;refine(hi _).mono ?_;rintro e w' ⟨rfl,rfl⟩)
  exact⟨rfl,.tuple #[],results_none (by rfl) _ _ _,rfl,rfl⟩
theorem Tryz.YO (w:World):Calls Tryz.prog 128 #[.int .u64 0] w λe w'=>e=.returned (.int .i64 (Lib.bitLen 0:Nat))/\w'=w:=by have h:=Any.bits_Len (SlLaysF0.n15.bits (P:=Tryz.prog) {Tryz.Lt with}) (0:Int) w ab ab;exact h
theorem Tryz.OB (v:Value)(w:World):Calls Tryz.prog 105 #[.slice none 0 0,v] w λe w'=>e=.returned (.tuple #[])/\w'=w:=by
 have hl:=Tryz.YO;have hp:=λl=>Tryz.OP l v
 go_enter Tryz.func105,Tryz.ntmps105
 go_wp2_with (first|(go_at_call 128;refine(hl _).mono ?_;rintro e w' ⟨rfl,rfl⟩)|(go_at_call 129;refine(hp _ _).mono ?_;rintro e w' ⟨rfl,rfl⟩))
 go_end0
 exact⟨rfl,rfl⟩
end Go.Proofs
