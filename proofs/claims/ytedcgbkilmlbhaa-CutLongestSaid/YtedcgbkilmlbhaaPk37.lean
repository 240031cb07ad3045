import Derived.Test.YtedcgbkilmlbhaaPk36
import Derived.Conc.SmallLaws
import Derived.Shelf.SlSortCmp.WholeK
import Derived.Shelf.SlicesG.Cmp
import Derived.Shelf.Lay
import Derived.Ground.SlsfProg
import Derived.Ground.SlgcProg
import Derived.WalkKit
import Derived.WalkSpells
import Derived.WalkLawsBesides
import Derived.StillTailTactics
import Derived.Deep.QuietTactic
import Derived.BigQuiet
import Derived.Lib.Hide
import Derived.Test.YtedcgbkilmlbhaaPk24
import Derived.Test.YtedcgbkilmlbhaaChecked
import Derived.KernelRfl
import Derived.Test.YtedcgbkilmlbhaaPk29
set_option maxHeartbeats 2000000
set_option maxRecDepth 100000
namespace Go.Co
open Go Go.Conc Go.Proofs
open Classical
variable {P:Program} {aa:Machine->Trace->Prop} {γ:So} {w:World}
noncomputable def ID:Code:=match sZ with|.seq _ (.seq _ (.seq _ (.seq _ x)))=>x|_=>.skip
noncomputable def ahe:Code:=match sZ with|.seq _ (.seq x _)=>x|_=>.skip
noncomputable def ahd:Code:=match sZ with|.seq _ (.seq _ (.seq x _))=>x|_=>.skip
noncomputable def ae7:Code:=match sZ with|.seq _ (.seq _ (.seq _ (.seq (.seq x _) _)))=>x|_=>.skip
def ez(da db:Wk):List Sm:=da.bw.flatMap λx=>db.bw.flatMap λy=>(gL da db x y).map λs=>(x,y,s)
theorem P6(da db:Wk)(x:Int):∀ys:List Int,msgs da db x ys=(ys.flatMap λy=>(gL da db x y).map λs=>(x,y,s)).map wL
 |[]=>rfl
 |y::ys=>by rw[G4,P6 da db x ys,cM,dW,kW];rfl
theorem aaW(da db:Wk):(da.bw.map λx=>msgs da db x db.bw).flatten=(ez da db).map wL:=by
 unfold ez;induction da.bw with
 |nil=>rfl
 |cons x l ih=>rw[aV,List.flatten_cons,ih,cM,dW,P6]
theorem vo{α β:Type}(f:α->List β)(c:Nat):∀l:List α,(∀x∈l,(f x).length<=c)->(l.flatMap f).length<=l.length*c
 |[],_=>by simp
 |a::l,h=>by have h1:=h a (by simp);have h2:=vo f c l λx hx=>h x (by simp[hx]);rw[cM,cD,dw,j3];omega
theorem ES{da db:Wk}(wN:da.ok)(BH:db.ok):(ez da db).length<=4294967296:=by
 have h1:∀x∈da.bw,(db.bw.flatMap λy=>(gL da db x y).map λs=>(x,y,s)).length<=1000*2001:=by intro x _;refine bp (vo _ 2001 _ λy _=>?_) (fZ _ BH.few);rw[List.length_map];have h2:=(BH.up y.toNat).1;have h3:=(wN.lo x.toNat).1;exact bp (IX _ _ _ _) (by omega)
 have h4:=vo _ _ _ h1;have h5:=fZ (1000*2001) wN.few;unfold ez;omega
theorem aaq(hP:Plain Try.prog){b2 b3 b5 b6 cf cl:Nat}{da db:Wk}(wN:da.ok)(BH:db.ok){A:Nat->Prop}{B0:Nat}{w0:World}(hS:J2 A B0 w0 γ w)(hF:Fx da db b2 b3 b5 b6 cf cl γ w)(u:Nat->Value){Qf:Exit->Act->World->Prop}
  (hT:∀γ' a' w',adz A B0 w0 (ez da db) (.ret,γ') .normal a' w'->KJ (jk Try.prog aa) 33 () ID (λ_=>Qf) a' w'):
  KJ (KG Try.prog aa true) 33 (chain cf cl (.bool true) (.bool false) false da.bw.length (CX cf (.agg #[.int .i64 0,.int .i64 0,.int .i64 0]) ((ez da db).map wL)) (da.bw.map λx=>msgs da db x db.bw),γ) sZ (λγ' e a' w'=>γ'.1=.ret/\Qf e a' w') (O5 b2 b3 b5 b6 u) w:=by
 have C:=BQ (aa:=aa) (main:=true) hP;have ada:CX cf (.agg #[.int .i64 0,.int .i64 0,.int .i64 0]) ((ez da db).map wL)≠.ret/\CX cf (.agg #[.int .i64 0,.int .i64 0,.int .i64 0]) ((ez da db).map wL)≠.stop:=by obtain⟨q,hq⟩:=wH (cf:=cf) (z:=.agg #[.int .i64 0,.int .i64 0,.int .i64 0]) ((ez da db).map wL);rw[hq];simp
 generalize QU:CX cf (.agg #[.int .i64 0,.int .i64 0,.int .i64 0]) ((ez da db).map wL)=pc at*;show KJ _ _ _ (.seq afP (.seq ahe (.seq ahd (.seq (.seq ae7 U9) ID)))) _ _ _;refine bk C (za (aec hP wN BH hS hF u) ?_);rintro⟨p',γ'⟩ e a' w' ⟨rfl,tI,CV,hF',-,vl,nl,k,u',rfl⟩;simp only at tI CV hF';subst tI;unfold Ks;refine bk C (cG C ?_);refine eE C (v:=?v1) rfl (by rfl) (λw=>run_eq_of λK hK=>?r1) (λw=>?e1) ?h1
 case r1=>go_simp;exact hK
 case e1=>simp[go_sem,Instr.makeFunc]
 try walk_nrm
 show KO _ _ (Pc.go (JR cf cl (.bool false) false da.bw.length) pc,γ') _ _ _ _ _;refine abQ (d:=call85 b2 b6 b5) (f:=.func 60) (cap:=#[.pointer (some ⟨b2,0,none⟩),.pointer (some ⟨b6,0,none⟩),.pointer (some ⟨b5,0,none⟩)]) rfl (by rfl) (λw=>?_) (λw=>?_) rfl ada.2 (λ_=>ada.1) (λw9 r9 w10 r10=>?_) (λw9 r9 w10 r10=>?_);.simp[execOp,resolve,Act.eval,call85,Deferred.ofValue]
 .simp[execOp,resolve,Act.eval,Deferred.ofValue]
 .have QW:=((hF'.kept (Kept.rely r9)).give).kept (Kept.rely r10);exact SL hP wN QW.wa QW.f QW.l
 have QW:=((hF'.kept (Kept.rely r9)).give).kept (Kept.rely r10);have hS9:=((CV.kept (Kept.rely r9)).give).kept (Kept.rely r10);have hf9:=QW.f;clear hF' CV QW;try walk_nrm
 refine aU C ?_;co_then;refine bk C (cG C ?_);refine aq C ?_;try walk_nrm
 refine aU C ?_;co_then;refine bk C (bk C (cG C ?_));refine rC C ada.1 (v:=?v21) rfl (by rfl) (λw₁ h₁=>⟨run_eq_of λK hK=>?r21,?e21⟩) ?h21
 case r21=>have hc:=(bJ.rely hf9 h₁).2;go_simp;exact hK
 case e21=>have hc:=(bJ.rely hf9 h₁).2;intro e he;simp[go_sem,hc]at he;subst he;exact(bJ.rely hf9 h₁).JQ
 try walk_nrm
 refine aU C ?_;co_then;subst QU;refine(?_:∀a',(∃u,a'=O6 cf (.slice none 0 0) u)->KJ _ _ _ U9 _ a' _) _ (qy rfl);rintro a' ⟨u2,rfl⟩;refine za (X2 hP (ES wN BH) hS9 u2) ?_;rintro⟨p3,γ3⟩ e a3 w3 hE;have he:=hE.1;have hp3:=hE.2.1;simp only at hp3;subst he;subst hp3;refine(?_:KJ (KG Try.prog aa true) 33 (.ret,γ3) ID (λγ' e a' w'=>γ'.1=.ret/\Qf e a' w') a3 w3);exact XK (za (hT γ3 a3 w3 hE) λ_ e a w q=>⟨rfl,q⟩)
end Go.Co
namespace Go.Co
open Go Go.Conc Go.Proofs
open Classical
variable {P:Program} {aa:Machine->Trace->Prop} {γ:So} {w:World}
theorem ago{fn:FuncId}{c:Code}{a:Act}{Q:Gm->Exit->Act->World->Prop}(h:∀w1,jv γ w w1->KJ (jk P aa) fn () c (λ_ e a w'=>∃γ',Q (.bad,γ') e a w') a w1):KJ (Rg P aa) fn (.bad,γ) c Q a w:=by
 intro b k cs hb hk hc _ w1 r;refine h w1 r b k cs hb hk λ_ e a' w' q=>?_;obtain⟨γ',q⟩:=q;have h:=hc _ _ _ _ q;cases e with
 |normal=>exact h rfl w' (iZ _ _)
 |exit id=>obtain⟨k',h1,h2⟩:=h;exact⟨k',h1,h2 rfl w' (iZ _ _)⟩
 |ret=>exactλtodo=>h todo rfl w' (iZ _ _)
 |goto l=>exact h
 |panic ch=>exact h
 |outgrown=>exact h
structure xl (γ:So) (w:World) (cs:Array Value) (d:Wk):Prop where
 cH:cs[2]? =some (.int .i64 d.cH)
 bw:∃v,cs[3]? =some v/\Au γ w v d.bw
 up:∀i,i<4->∃v,cs[4+i*2]? =some v/\Au γ w v (d.up i)
 lo:∀i,i<4->∃v,cs[4+i*2+1]? =some v/\Au γ w v (d.lo i)
theorem xl.kept {cs:Array Value}{d:Wk}{γ':So}{w':World}(h:xl γ w cs d)(k:Kept γ w γ' w'):xl γ' w' cs d:=
 ⟨h.cH,h.bw.imp λ_ ⟨h1,h2⟩=>⟨h1,k.HO h2⟩,λi hi=>(h.up i hi).imp λ_ ⟨h1,h2⟩=>⟨h1,k.HO h2⟩,λi hi=>(h.lo i hi).imp λ_ ⟨h1,h2⟩=>⟨h1,k.HO h2⟩⟩
theorem xl.boxed {cs:Array Value}{d:Wk}{t:TypeId}(h:xl γ w cs d):gI (γ.more w.heap.size) (w.alloc (.cells cs t)) w.heap.size d:=by have k:=Kept.alloc γ w w.heap.size (.cells cs t);exact⟨bJ.fresh rfl h.cH,h.bw.imp λ_ ⟨h1,h2⟩=>⟨bJ.fresh rfl h1,k.HO h2⟩,λi hi=>(h.up i hi).imp λ_ ⟨h1,h2⟩=>⟨bJ.fresh rfl h1,k.HO h2⟩,λi hi=>(h.lo i hi).imp λ_ ⟨h1,h2⟩=>⟨bJ.fresh rfl h1,k.HO h2⟩⟩
def Ch(γ:So)(w:World)(c:Nat):Prop:=γ.all c/\w.heap[c]? =some (.chan 0 #[] false 0 0 false)
theorem Ch.lt {c:Nat}(h:Ch γ w c):c<w.heap.size:=(aL.1 h.2).1
theorem Ch.kept {c:Nat}{γ':So}{w':World}(h:Ch γ w c)(k:Kept γ w γ' w'):Ch γ' w' c:=⟨k.all h.1,(k.blk c h.1 h.lt).trans h.2⟩
def Shr(w:World)(cf cl:Nat):So:=(λb=>b<w.heap.size/\b≠cf/\b≠cl,λ_=>False)
theorem bJ.shr {cf cl:Nat}{ad:Addr}{v:Value}(hf:Ch γ w cf)(hl:Ch γ w cl)(h:bJ γ w ad v):bJ (Shr w cf cl) w ad v:=by
 refine⟨.inl ⟨h.lt,λe=>?_,λe=>?_⟩,h.2⟩;.have:=h.2;simp[World.cell?,e,hf.2]at this
 have:=h.2;simp[World.cell?,e,hl.2]at this
theorem Au.shr {cf cl:Nat}{v:Value}{l:List Int}(hf:Ch γ w cf)(hl:Ch γ w cl)(h:Au γ w v l):Au (Shr w cf cl) w v l:=by obtain⟨A,cap,rfl,h⟩:=h;exact⟨A,cap,rfl,λi x hx=>by obtain⟨ad,h1,h2⟩:=h i x hx;exact⟨ad,h1,h2.shr hf hl⟩⟩
theorem gI.shr {cf cl b:Nat}{d:Wk}(hf:Ch γ w cf)(hl:Ch γ w cl)(h:gI γ w b d):gI (Shr w cf cl) w b d:=
 ⟨h.cH.shr hf hl,h.bw.imp λ_ ⟨h1,h2⟩=>⟨h1.shr hf hl,h2.shr hf hl⟩,λi hi=>(h.up i hi).imp λ_ ⟨h1,h2⟩=>⟨h1.shr hf hl,h2.shr hf hl⟩,λi hi=>(h.lo i hi).imp λ_ ⟨h1,h2⟩=>⟨h1.shr hf hl,h2.shr hf hl⟩⟩
def Old(A:Nat->Prop)(B0:Nat)(w0 w:World):Prop:=(∀b,A b->w.heap[b]? =w0.heap[b]?)/\B0<=w.heap.size/\w.os=w0.os/\w.output=w0.output
def V0(aa:Machine->Trace->Prop)(R:List Sm):Prop:=∀A B0 w0 γ' a' w',adz A B0 w0 R (.ret,γ') .normal a' w'->
 KJ (jk Try.prog aa) 33 () ID (λ_ e a w=>e=.ret/\a.defers=[]/\Old A B0 w0 w/\w.ownsRow B0 56 3 (a.tmps.getD 4 undef) R.length (R.flatMap sN)) a' w'
theorem aaS:(Try.prog.info? 115).map (λi=>(i.zero,i.size,i.bytes))=some (some (.chan none),1,8):=by kernel_rfl
theorem aaR:(Try.prog.info? 116).map (λi=>(i.zero,i.size,i.bytes))=some (some (.chan none),1,8):=by kernel_rfl
theorem Mc(hP:Plain Try.prog){ca cb:Array Value}{da db:Wk}(wN:da.ok)(BH:db.ok)(hva:xl γ w ca da)(hvb:xl γ w cb db)(hT:V0 aa (ez da db)):
  yU (Rg Try.prog aa) Try.prog (.bad,γ) 33 #[.agg ca,.agg cb] w λγ' v w'=>γ'.1=.bad/\Kept γ w γ'.2 w'/\lZ γ'.2 w' w.heap.size 56 3 v (ez da db).length ((ez da db).flatMap sN):=by
 have C:=aaO (aa:=aa) hP;have hp:Pc.bad≠Pc.ret:=by simp
 obtain⟨i71,h71,-,-,b71⟩:=info_parts Nz;obtain⟨i4,h4,-,-,b4⟩:=info_parts abR;obtain⟨i138,aii,z138,-,-⟩:=info_parts aaS;obtain⟨i139,aih,z139,-,-⟩:=info_parts aaR;refine Ex Try.func33 (by rfl) rfl ?_;simp only[Try.ntmps33,mF,dw,kX,Nat.reduceAdd,Nat.reduceSub,Array.replicate_succ,Array.replicate_zero,List.push_toArray,List.append_toArray,gQ,nM];show KJ _ _ _ (.seq (.region _ _ false) (.seq (.region _ _ false) (.seq (.region _ _ false) sZ))) _ _ _;refine bk C (cG C ?_);refine rD C hp (ob:=?ob1) rfl (by rfl) (λw=>run_eq_of λK hK=>?r1) (λw=>?e1) ?h1
 case r1=>go_simp;exact hK
 case e1=>simp[go_sem]
 intro w1 Tj;try walk_nrm
 have uk:=(Kept.rely Tj).trans (Kept.alloc γ w1 w1.heap.size (.cells ca 70));have Yp:gI (γ.more w1.heap.size) (w1.alloc (.cells ca 70)) w1.heap.size da:=(hva.kept (Kept.rely Tj)).boxed;have afk:=hvb.kept uk;generalize w1.alloc (.cells ca 70)=W1 at*;generalize γ.more w1.heap.size=γ1 at*;generalize w1.heap.size=b2 at*;clear Tj;refine rD C hp (ob:=?ob2) rfl (by rfl) (λw=>run_eq_of λK hK=>?r2) (λw=>?e2) ?h2
 case r2=>go_simp;exact hK
 case e2=>simp[go_sem]
 intro w2 SP;try walk_nrm
 have J7:=(Kept.rely SP).trans (Kept.alloc γ1 w2 w2.heap.size (.cells cb 70));have MJ:gI (γ1.more w2.heap.size) (w2.alloc (.cells cb 70)) w2.heap.size db:=(afk.kept (Kept.rely SP)).boxed;have OP:=Yp.kept J7;have JY:=uk.trans J7;generalize w2.alloc (.cells cb 70)=W2 at*;generalize γ1.more w2.heap.size=γ2 at*;generalize w2.heap.size=b3 at*;clear SP J7 uk Yp afk;refine aq C ?_;try walk_nrm
 refine aU C ?_;co_then;have hk:=JY;have ha:=OP;have hb:=MJ;clear JY OP MJ;refine bk C (cG C ?_);refine Iv C hp (f:=λn=>.chan (some n)) (ob:=.chan 0 #[] false 0 0 false) rfl (by rfl) (λw=>?_) (λw=>?_) ?_;.have h:(Instr.makeChan 115 (.int .i64 0)).run Try.prog w=_:=run_makeChan (P:=Try.prog) (w:=w) Try.underlying115 h71 .i64 0 (by omega) (by rw[b71];omega);simp[execOp,Act.eval,h]
 .have h:(Instr.makeChan 115 (.int .i64 0)).events Try.prog w #[]=_:=events_makeChan (P:=Try.prog) (w:=w) Try.underlying115 h71 .i64 0 (by omega) (by rw[b71];omega) #[];simp[execOp,Act.eval,h]
 intro YC acJ;try walk_nrm
 have yC:=(Kept.rely acJ).trans (Kept.alloc _ YC YC.heap.size (.chan 0 #[] false 0 0 false));have hcf:Ch (So.more γ2 YC.heap.size) (YC.alloc (.chan 0 #[] false 0 0 false)) YC.heap.size:=⟨.inr (.inr rfl),heap_alloc_new YC _⟩;have aiz:w.heap.size<=YC.heap.size:=bp hk.size acJ.1
 replace hk:=hk.trans yC
 replace ha:=ha.kept yC
 replace hb:=hb.kept yC
 generalize YC.alloc (.chan 0 #[] false 0 0 false)=Wpa at*;generalize YC.heap.size=cf at*;generalize So.more γ2 cf=γpa at*;clear yC acJ;refine rD C hp (ob:=.cells #[.chan none] 115) rfl (by rfl) (λw=>run_eq_of λK hK=>?r4) (λw=>?e4) ?h4
 case r4=>go_simp;exact hK
 case e4=>simp[execOp,Instr.alloc,zeroValue,typeInfo,aii,z138,newVar,newRow]
 intro Te acI;try walk_nrm
 have yC:=(Kept.rely acI).trans (Kept.alloc _ Te Te.heap.size (.cells #[.chan none] 115));have hz:(Te.alloc (.cells #[.chan none] 115)).frozen? ⟨Te.heap.size,0,none⟩=false:=World.frozen?_alloc_new _ _ _ _;have hs:bJ _ _ ⟨Te.heap.size,0,none⟩ (.chan none):=bJ.fresh (γ:=γpa) (w:=Te) (cs:=#[.chan none]) (t:=115) rfl rfl;have hO:(So.more γpa Te.heap.size).2 Te.heap.size:=.inr rfl;have JZ:Wpa.heap.size<=Te.heap.size:=acI.1;generalize Te.alloc (.cells #[.chan none] 115)=Wpb at*;generalize Te.heap.size=b5 at*;generalize So.more γpa b5=γpb at*;clear acI;refine Nw C hp (ad:=⟨b5,0,none⟩) (v:=.chan (some cf)) rfl (by rfl) hO (λw₁ h₁=>⟨?_,?_⟩) ?_
 .have hc:=(hs.rely h₁).2;have SU:w₁.frozen? ⟨b5,0,none⟩=false:=(World.frozen?_of_block (h₁.2.1 b5 (.inr hO))).trans hz;refine(?_:∀K:Result Next->Prop,K (.ok .skip (w₁.setCell ⟨b5,0,none⟩ (.chan (some cf))))->K _) (·=_) rfl;intro K hK
  go_simp
  try(unfold stored;go_simp)
  exact hK
 .have hc:=(hs.rely h₁).2;have SU:w₁.frozen? ⟨b5,0,none⟩=false:=(World.frozen?_of_block (h₁.2.1 b5 (.inr hO))).trans hz;intro e he;simp[go_sem,hc,SU]at he;exact he
 intro wpc acH;try walk_nrm
 replace yC:=(yC.trans (Kept.rely acH)).put (ad:=⟨b5,0,none⟩) (v:=.chan (some cf)) JZ
 have hb5:bJ γpb (wpc.setCell ⟨b5,0,none⟩ (.chan (some cf))) ⟨b5,0,none⟩ (.chan (some cf)):=⟨.inr hO,World.cell?_setCell_same _ _ _ (hs.rely acH).2⟩;generalize wpc.setCell ⟨b5,0,none⟩ (.chan (some cf))=Wpc at*
 replace hk:=hk.trans yC
 replace hcf:=hcf.kept yC
 replace ha:=ha.kept yC
 replace hb:=hb.kept yC
 clear yC hs hz JZ hO acH;refine aU C ?_;co_then;refine bk C (cG C ?_);refine Iv C hp (f:=λn=>.chan (some n)) (ob:=.chan 0 #[] false 0 0 false) rfl (by rfl) (λw=>?_) (λw=>?_) ?_;.have h:(Instr.makeChan 116 (.int .i64 0)).run Try.prog w=_:=run_makeChan (P:=Try.prog) (w:=w) Try.underlying116 h4 .i64 0 (by omega) (by rw[b4];omega);simp[execOp,Act.eval,h]
 .have h:(Instr.makeChan 116 (.int .i64 0)).events Try.prog w #[]=_:=events_makeChan (P:=Try.prog) (w:=w) Try.underlying116 h4 .i64 0 (by omega) (by rw[b4];omega) #[];simp[execOp,Act.eval,h]
 intro Ye Y6;try walk_nrm
 have hne:cf≠Ye.heap.size:=Nat.ne_of_lt (hcf.kept (Kept.rely Y6)).lt;have yC:=(Kept.rely Y6).trans (Kept.alloc _ Ye Ye.heap.size (.chan 0 #[] false 0 0 false));have tY:Ch (So.more γpb Ye.heap.size) (Ye.alloc (.chan 0 #[] false 0 0 false)) Ye.heap.size:=⟨.inr (.inr rfl),heap_alloc_new Ye _⟩;have aiy:w.heap.size<=Ye.heap.size:=bp hk.size Y6.1
 replace hk:=hk.trans yC
 replace ha:=ha.kept yC
 replace hb:=hb.kept yC
 replace hcf:=hcf.kept yC
 replace hb5:=(yC.sees hb5)
 generalize Ye.alloc (.chan 0 #[] false 0 0 false)=Wqa at*;generalize Ye.heap.size=cl at*;generalize So.more γpb cl=γqa at*;clear yC Y6;refine rD C hp (ob:=.cells #[.chan none] 116) rfl (by rfl) (λw=>run_eq_of λK hK=>?r5) (λw=>?e5) ?h5
 case r5=>go_simp;exact hK
 case e5=>simp[execOp,Instr.alloc,zeroValue,typeInfo,aih,z139,newVar,newRow]
 intro Tc acG;try walk_nrm
 have yC:=(Kept.rely acG).trans (Kept.alloc _ Tc Tc.heap.size (.cells #[.chan none] 116));have hz:(Tc.alloc (.cells #[.chan none] 116)).frozen? ⟨Tc.heap.size,0,none⟩=false:=World.frozen?_alloc_new _ _ _ _;have hs:bJ _ _ ⟨Tc.heap.size,0,none⟩ (.chan none):=bJ.fresh (γ:=γqa) (w:=Tc) (cs:=#[.chan none]) (t:=116) rfl rfl;have hO:(So.more γqa Tc.heap.size).2 Tc.heap.size:=.inr rfl;have JZ:Wqa.heap.size<=Tc.heap.size:=acG.1;generalize Tc.alloc (.cells #[.chan none] 116)=Wqb at*;generalize Tc.heap.size=b6 at*;generalize So.more γqa b6=γqb at*;clear acG;refine Nw C hp (ad:=⟨b6,0,none⟩) (v:=.chan (some cl)) rfl (by rfl) hO (λw₁ h₁=>⟨?_,?_⟩) ?_
 .have hc:=(hs.rely h₁).2;have SU:w₁.frozen? ⟨b6,0,none⟩=false:=(World.frozen?_of_block (h₁.2.1 b6 (.inr hO))).trans hz;refine(?_:∀K:Result Next->Prop,K (.ok .skip (w₁.setCell ⟨b6,0,none⟩ (.chan (some cl))))->K _) (·=_) rfl;intro K hK
  go_simp
  try(unfold stored;go_simp)
  exact hK
 .have hc:=(hs.rely h₁).2;have SU:w₁.frozen? ⟨b6,0,none⟩=false:=(World.frozen?_of_block (h₁.2.1 b6 (.inr hO))).trans hz;intro e he;simp[go_sem,hc,SU]at he;exact he
 intro wqc acF;try walk_nrm
 replace yC:=(yC.trans (Kept.rely acF)).put (ad:=⟨b6,0,none⟩) (v:=.chan (some cl)) JZ
 have hb6:bJ γqb (wqc.setCell ⟨b6,0,none⟩ (.chan (some cl))) ⟨b6,0,none⟩ (.chan (some cl)):=⟨.inr hO,World.cell?_setCell_same _ _ _ (hs.rely acF).2⟩;generalize wqc.setCell ⟨b6,0,none⟩ (.chan (some cl))=Wqc at*
 replace hk:=hk.trans yC
 replace tY:=tY.kept yC
 replace ha:=ha.kept yC
 replace hb:=hb.kept yC
 replace hcf:=hcf.kept yC
 replace hb5:=(yC.sees hb5)
 clear yC hs hz JZ hO acF;refine aU C ?_;co_then;refine ago λw1 r1=>?_;have hkr:=Kept.rely r1;have Uc:=hcf.kept hkr;have Ub:=tY.kept hkr;have uk:=hk.trans hkr;have hS:J2 (λb=>γ.all b/\b<w.heap.size) w.heap.size w (Shr w1 cf cl) w1:=
  ⟨λb h=>h.2,λb h=>.inl ⟨dM h.2 uk.size,by have:=h.2;omega,by have:=h.2;omega⟩,λb h=>uk.blk b h.1 h.2,uk.size,uk.env⟩
 refine(?_:∀a',(∃u,a'=O5 b2 b3 b5 b6 u)->KJ _ _ _ sZ _ a' _) _ (qy rfl);rintro a' ⟨u,rfl⟩;have hW:∀n,0<n->Ds (λc=>c=cf\/c=cl) (entry n (chain cf cl (.bool true) (.bool false) false da.bw.length (CX cf (.agg #[.int .i64 0,.int .i64 0,.int .i64 0]) ((ez da db).map wL)) (da.bw.map λx=>msgs da db x db.bw))):=by
  intro n hn;have h:=L5 (tv:=.bool true) (z:=.agg #[.int .i64 0,.int .i64 0,.int .i64 0]) (z2:=.bool false) (rK:=false) hne (da.bw.map λx=>msgs da db x db.bw) hn
  rwa [List.length_map,aaW]at h
 have kP:(chain cf cl (.bool true) (.bool false) false da.bw.length (CX cf (.agg #[.int .i64 0,.int .i64 0,.int .i64 0]) ((ez da db).map wL)) (da.bw.map λx=>msgs da db x db.bw)).live:=by obtain⟨x,y,h⟩:=Mr (cf:=cf) (cl:=cl) (tv:=.bool true) (z2:=.bool false) (rK:=false) da.bw.length (CX cf (.agg #[.int .i64 0,.int .i64 0,.int .i64 0]) ((ez da db).map wL)) (da.bw.map λx=>msgs da db x db.bw);rw[h];exact⟨by simp,by simp,by simp⟩
 refine XJ hP (Cs:=λc=>c=cf\/c=cl) (S:=(Shr w1 cf cl).1) (O:=(Shr w1 cf cl).2) kP (λb h=>h.elim) (λb h=>h.elim (·.1) (·.elim)) (λc hc=>?_) hW
  (aaq hP wN BH hS ⟨(ha.kept hkr).shr Uc Ub,(hb.kept hkr).shr Uc Ub,(hkr.sees hb5).shr Uc Ub,(hkr.sees hb6).shr Uc Ub⟩ u (λγ' a' w' hE=>za (hT _ _ _ γ' a' w' hE) ?_))
 .rcases hc with rfl|rfl;.exact⟨⟨0,false,Uc.2⟩,λh=>h.2.1 rfl,λh=>h⟩
  exact⟨⟨0,false,Ub.2⟩,λh=>h.2.2 rfl,λh=>h⟩
 rintro _ e a3 w3 ⟨rfl,hd,hold,fR⟩;exact⟨(γ.1,λb=>γ.2 b\/(w.heap.size<=b/\b<w3.heap.size)),hd,a3.tmps.getD 4 undef,resultsC_tmp Try.results33 _,rfl,
  ⟨rfl,λ_ h=>.inl h,λb hb hlt=>hold.1 b ⟨hb,hlt⟩,hold.2.1,hold.2.2⟩,⟨fR,λb hb=>.inr (fR.lt b hb)⟩⟩
end Go.Co
namespace Go.Proofs
open Go.Shelf Go.RowKit Go.Lib Go.Sort
def Try.Jx:Go.Shelf.Ren:=⟨λ|6=>61|15=>78|14=>77|28=>92|29=>93|20=>84|21=>85|22=>86|23=>87|24=>88|25=>89|26=>90|27=>91|46=>97|47=>98|48=>99|49=>100|50=>101|57=>104|n=>n,λ|22=>33|24=>56|25=>119|3=>3|39=>106|0=>0|53=>146|55=>57|4=>4|46=>140|45=>139|50=>49|5=>5|9=>9|66=>149|70=>152|76=>155|77=>156|n=>n,λ|n=>n⟩
theorem Try.KX:Go.Proofs.SlLaysF0.n6 Try.prog Try.Jx:={
 mixed:=by kernel_rfl
 f6:=⟨Try.f61.name,by decide,Try.func61.trans (congrArg some (by kernel_rfl))⟩
 f14:=⟨Try.f77.name,by decide,Try.func77.trans (congrArg some (by kernel_rfl))⟩
 f15:=Try.func78.trans (congrArg some (by kernel_rfl))
 f20:=⟨Try.f84.name,by decide,Try.func84.trans (congrArg some (by kernel_rfl))⟩
 f21:=⟨Try.f85.name,by decide,Try.func85.trans (congrArg some (by kernel_rfl))⟩
 f22:=⟨Try.f86.name,by decide,Try.func86.trans (congrArg some (by kernel_rfl))⟩
 f23:=⟨Try.f87.name,by decide,Try.func87.trans (congrArg some (by kernel_rfl))⟩
 f24:=⟨Try.f88.name,by decide,Try.func88.trans (congrArg some (by kernel_rfl))⟩
 f25:=⟨Try.f89.name,by decide,Try.func89.trans (congrArg some (by kernel_rfl))⟩
 f26:=⟨Try.f90.name,by decide,Try.func90.trans (congrArg some (by kernel_rfl))⟩
 f27:=⟨Try.f91.name,by decide,Try.func91.trans (congrArg some (by kernel_rfl))⟩
 f28:=Try.func92.trans (congrArg some (by kernel_rfl))
 f29:=Try.func93.trans (congrArg some (by kernel_rfl))
 f46:=⟨Try.f97.name,by decide,Try.func97.trans (congrArg some (by kernel_rfl))⟩
 f47:=Try.func98.trans (congrArg some (by kernel_rfl))
 f48:=Try.func99.trans (congrArg some (by kernel_rfl))
 f49:=⟨Try.f100.name,by decide,Try.func100.trans (congrArg some (by kernel_rfl))⟩
 f50:=⟨Try.f101.name,by decide,Try.func101.trans (congrArg some (by kernel_rfl))⟩
 f57:=⟨Try.f104.name,by decide,Try.func104.trans (congrArg some (by kernel_rfl))⟩
 t0:=Try.underlying0
 a0:=Try.isAgg0
 z0:=Try.sizeOf0
 v0:=Try.zeroValue0
 t3:=Try.underlying3
 a3:=Try.isAgg3
 z3:=Try.sizeOf3
 v3:=Try.zeroValue3
 t4:=Try.underlying4
 a4:=Try.isAgg4
 z4:=Try.sizeOf4
 v4:=Try.zeroValue4
 t5:=Try.underlying5
 a5:=Try.isAgg5
 z5:=Try.sizeOf5
 v5:=Try.zeroValue5
 t9:=Try.underlying9
 a9:=Try.isAgg9
 z9:=Try.sizeOf9
 v9:=Try.zeroValue9
 t22:=Try.underlying33
 a22:=Try.isAgg33
 z22:=Try.sizeOf33
 v22:=Try.zeroValue33
 t25:=Try.underlying119
 a25:=Try.isAgg119
 z25:=Try.sizeOf119
 v25:=Try.zeroValue119
 t39:=Try.underlying106
 a39:=Try.isAgg106
 z39:=Try.sizeOf106
 v39:=Try.zeroValue106
 t45:=Try.underlying139
 a45:=Try.isAgg139
 z45:=Try.sizeOf139
 v45:=Try.zeroValue139
 t46:=Try.underlying140
 a46:=Try.isAgg140
 z46:=Try.sizeOf140
 v46:=Try.zeroValue140
 t50:=Try.underlying49
 a50:=Try.isAgg49
 z50:=Try.sizeOf49
 v50:=Try.zeroValue49
 t53:=Try.underlying146
 a53:=Try.isAgg146
 z53:=Try.sizeOf146
 v53:=Try.zeroValue146
 t55:=Try.underlying57
 a55:=Try.isAgg57
 z55:=Try.sizeOf57
 v55:=Try.zeroValue57
 t66:=Try.underlying149
 a66:=Try.isAgg149
 z66:=Try.sizeOf149
 v66:=Try.zeroValue149
 t70:=Try.underlying152
 a70:=Try.isAgg152
 z70:=Try.sizeOf152
 v70:=Try.zeroValue152
 t76:=Try.underlying155
 a76:=Try.isAgg155
 z76:=Try.sizeOf155
 v76:=Try.zeroValue155
 t77:=Try.underlying156
 a77:=Try.isAgg156
 z77:=Try.sizeOf156
 v77:=Try.zeroValue156}
def Try.Ox:Go.Shelf.Ren:=⟨λ|5=>64|7=>79|n=>n,λ|22=>3|3=>3|4=>4|n=>n,λ|n=>n⟩
theorem Try.aeT:Go.Proofs.SlLaysC2.n5 Try.prog Try.Ox:={
 mixed:=by kernel_rfl
 f5:=⟨Try.f64.name,by decide,Try.func64.trans (congrArg some (by kernel_rfl))⟩
 f7:=⟨Try.f79.name,by decide,Try.func79.trans (congrArg some (by kernel_rfl))⟩
 t3:=Try.underlying3
 a3:=Try.isAgg3
 z3:=Try.sizeOf3
 v3:=Try.zeroValue3
 t4:=Try.underlying4
 a4:=Try.isAgg4
 z4:=Try.sizeOf4
 v4:=Try.zeroValue4
 t22:=Try.underlying3
 a22:=Try.isAgg3
 z22:=Try.sizeOf3
 v22:=Try.zeroValue3}
theorem Try.ag9 (x y:Int)(w:World):Calls Try.prog 64 #[.int .i64 x,.int .i64 y] w λe w'=>e=.returned (.int .i64 (Lib.compareInt x y))/\w'=w:=by have h:=AnyG.cmp_Compare_int Try.aeT x y w;exact h
def YI(a b c:Int):Int:=if a=0 then if b=0 then c else b else a
theorem Try.ahv (a b c:Int)(n:Nat)(w:World)(h0:w.cell? ⟨n,0,none⟩=some (.int .i64 a))(h1:w.cell? ⟨n,1,none⟩=some (.int .i64 b))(h2:w.cell? ⟨n,2,none⟩=some (.int .i64 c)):
  Calls Try.prog 63 #[.slice (some ⟨n,0,none⟩) 3 3] w λe w'=>e=.returned (.int .i64 (YI a b c))/\w'=w:=by
 have hr:(a≠0->YI a b c=a)/\(a=0->b≠0->YI a b c=b)/\(a=0->b=0->YI a b c=c):=by
  refine⟨λh=>if_neg h,λh h'=>?_,λh h'=>?_⟩;.unfold YI;rw[if_pos h,if_neg h']
  unfold YI;rw[if_pos h,if_pos h']
 generalize YI a b c=r at hr⊢
 go_enter Try.func63,Try.ntmps63
 go_wp2
 go_loop [5,8] (λ_ i=>∃k:Nat,k<=3/\i=.int .i64 k/\(1<=k->a=0)/\(2<=k->b=0)/\(3<=k->c=0)) (λ_ i=>3-(intOf i).toNat)
 case atStart=>exact⟨0,by omega,rfl,by omega,by omega,by omega⟩
 case round=>
  obtain⟨k,hk,rfl,ha,hb,hc⟩:=hrel;have aeL:k=0\/k=1\/k=2\/k=3:=by omega
  rcases aeL with rfl|rfl|rfl|rfl
  .clear ha hb hc;by_cases hz:a=0
   .subst hz
    go_wp2
    go_round
    case rel=>exact⟨1,by omega,by go_num,by simp,by omega,by omega⟩
    case measure=>simp[intOf]
   have hra:=hr.1 hz;clear hr;subst hra
   go_wp2
   go_ret
   exact⟨rfl,rfl⟩
  .have ha:=ha (by omega);subst ha;clear hb hc h0;by_cases hz:b=0
   .subst hz
    go_wp2
    go_round
    case rel=>exact⟨2,by omega,by go_num,by simp,by simp,by omega⟩
    case measure=>simp[intOf]
   have hra:=hr.2.1 rfl hz;clear hr;subst hra
   go_wp2
   go_ret
   exact⟨rfl,rfl⟩
  .have ha:=ha (by omega);have hb:=hb (by omega);subst ha;subst hb;clear hc h0 h1;by_cases hz:c=0
   .subst hz
    go_wp2
    go_round
    case rel=>exact⟨3,by omega,by go_num,by simp,by simp,by simp⟩
    case measure=>simp[intOf]
   have hra:=hr.2.2 rfl rfl;clear hr;subst hra
   go_wp2
   go_ret
   exact⟨rfl,rfl⟩
  have ha:=ha (by omega);have hb:=hb (by omega);have hc:=hc (by omega);have hra:=hr.2.2 ha hb;subst ha;subst hb;subst hc;clear hr h0 h1 h2;subst hra
  go_wp2
  go_ret
  exact⟨rfl,rfl⟩
def yQ(x y:Int×Int×Int):Int:=YI (Lib.compareInt x.1 y.1) (Lib.compareInt x.2.1 y.2.1) (Lib.compareInt x.2.2 y.2.2)
theorem Try.SK (x y:Int×Int×Int)(W:World):Calls Try.prog 62 #[.agg #[.int .i64 x.1,.int .i64 x.2.1,.int .i64 x.2.2],.agg #[.int .i64 y.1,.int .i64 y.2.1,.int .i64 y.2.2]] W λe w'=>e=.returned (.int .i64 (yQ x y))/\∃q os',w'=grow (W.drewN q) os':=by
 obtain⟨x1,x2,x3⟩:=x;obtain⟨y1,y2,y3⟩:=y;have Rb:=Try.ag9;unfold yQ;simp only;have hA:=Rb x1 y1;have hB:=Rb x2 y2;have hC:=Rb x3 y3;clear Rb;generalize Lib.compareInt x1 y1=A at*;generalize Lib.compareInt x2 y2=B at*;generalize Lib.compareInt x3 y3=C at*
 go_enter Try.func62,Try.ntmps62
 go_wp2
 refine wp_region_still_tail 15 (by kernel_rfl) (by kernel_rfl) ?_;simp only[List.take_succ_cons,List.take_zero,List.drop_succ_cons,nL];have a1:((W.alloc (.cells #[.int .i64 x1,.int .i64 x2,.int .i64 x3] 56)).alloc (.cells #[.int .i64 y1,.int .i64 y2,.int .i64 y3] 56)).drew.cell? ⟨W.heap.size,0,none⟩=some (.int .i64 x1):=by refine(World.cell?_alloc_lt _ _ _ (by simp)).trans ?_;rw[World.cell?_alloc_new];rfl
 have a2:((W.alloc (.cells #[.int .i64 x1,.int .i64 x2,.int .i64 x3] 56)).alloc (.cells #[.int .i64 y1,.int .i64 y2,.int .i64 y3] 56)).drew.cell? ⟨W.heap.size,1,none⟩=some (.int .i64 x2):=by refine(World.cell?_alloc_lt _ _ _ (by simp)).trans ?_;rw[World.cell?_alloc_new];rfl
 have a3:((W.alloc (.cells #[.int .i64 x1,.int .i64 x2,.int .i64 x3] 56)).alloc (.cells #[.int .i64 y1,.int .i64 y2,.int .i64 y3] 56)).drew.cell? ⟨W.heap.size,2,none⟩=some (.int .i64 x3):=by refine(World.cell?_alloc_lt _ _ _ (by simp)).trans ?_;rw[World.cell?_alloc_new];rfl
 have b1:((W.alloc (.cells #[.int .i64 x1,.int .i64 x2,.int .i64 x3] 56)).alloc (.cells #[.int .i64 y1,.int .i64 y2,.int .i64 y3] 56)).drew.cell? ⟨W.heap.size+1,0,none⟩=some (.int .i64 y1):=by have h:=World.cell?_alloc_new (W.alloc (.cells #[.int .i64 x1,.int .i64 x2,.int .i64 x3] 56)) #[.int .i64 y1,.int .i64 y2,.int .i64 y3] 56 0;rw[show(W.alloc (.cells #[.int .i64 x1,.int .i64 x2,.int .i64 x3] 56)).heap.size=W.heap.size+1 by simp]at h;exact h.trans rfl
 have b2:((W.alloc (.cells #[.int .i64 x1,.int .i64 x2,.int .i64 x3] 56)).alloc (.cells #[.int .i64 y1,.int .i64 y2,.int .i64 y3] 56)).drew.cell? ⟨W.heap.size+1,1,none⟩=some (.int .i64 y2):=by have h:=World.cell?_alloc_new (W.alloc (.cells #[.int .i64 x1,.int .i64 x2,.int .i64 x3] 56)) #[.int .i64 y1,.int .i64 y2,.int .i64 y3] 56 1;rw[show(W.alloc (.cells #[.int .i64 x1,.int .i64 x2,.int .i64 x3] 56)).heap.size=W.heap.size+1 by simp]at h;exact h.trans rfl
 have b3:((W.alloc (.cells #[.int .i64 x1,.int .i64 x2,.int .i64 x3] 56)).alloc (.cells #[.int .i64 y1,.int .i64 y2,.int .i64 y3] 56)).drew.cell? ⟨W.heap.size+1,2,none⟩=some (.int .i64 y3):=by have h:=World.cell?_alloc_new (W.alloc (.cells #[.int .i64 x1,.int .i64 x2,.int .i64 x3] 56)) #[.int .i64 y1,.int .i64 y2,.int .i64 y3] 56 2;rw[show(W.alloc (.cells #[.int .i64 x1,.int .i64 x2,.int .i64 x3] 56)).heap.size=W.heap.size+1 by simp]at h;exact h.trans rfl
 have hg:((W.alloc (.cells #[.int .i64 x1,.int .i64 x2,.int .i64 x3] 56)).alloc (.cells #[.int .i64 y1,.int .i64 y2,.int .i64 y3] 56)).drew=grow (W.drewN 1) (#[.cells #[.int .i64 x1,.int .i64 x2,.int .i64 x3] 56]++#[.cells #[.int .i64 y1,.int .i64 y2,.int .i64 y3] 56]):=by rw[alloc_eq_grow,alloc_eq_grow,grow_grow];rfl
 change wpStill _ _ ((W.alloc (.cells #[.int .i64 x1,.int .i64 x2,.int .i64 x3] 56)).alloc (.cells #[.int .i64 y1,.int .i64 y2,.int .i64 y3] 56)).drew (λa'=>wpList _ _ _ _ a' ((W.alloc (.cells #[.int .i64 x1,.int .i64 x2,.int .i64 x3] 56)).alloc (.cells #[.int .i64 y1,.int .i64 y2,.int .i64 y3] 56)).drew) _ _;generalize((W.alloc (.cells #[.int .i64 x1,.int .i64 x2,.int .i64 x3] 56)).alloc (.cells #[.int .i64 y1,.int .i64 y2,.int .i64 y3] 56)).drew=W2 at*;have HG:=Lib.hid hg;clear hg;repeat still_step
 still_call (hA _)
 repeat still_step
 still_call (hB _)
 repeat still_step
 still_call (hC _)
 repeat still_step
 refine wpStill_nil ?_;clear a1 a2 a3 b1 b2 b3 hA hB hC;have c0:(W2.alloc (.cells #[.int .i64 A,.int .i64 B,.int .i64 C] 3)).cell? ⟨W2.heap.size,0,none⟩=some (.int .i64 A):=by rw[World.cell?_alloc_new];rfl
 have c1:(W2.alloc (.cells #[.int .i64 A,.int .i64 B,.int .i64 C] 3)).cell? ⟨W2.heap.size,1,none⟩=some (.int .i64 B):=by rw[World.cell?_alloc_new];rfl
 have c2:(W2.alloc (.cells #[.int .i64 A,.int .i64 B,.int .i64 C] 3)).cell? ⟨W2.heap.size,2,none⟩=some (.int .i64 C):=by rw[World.cell?_alloc_new];rfl
 have hor:=Try.ahv A B C W2.heap.size _ c0 c1 c2;clear c0 c1 c2
 go_wp2_with (go_at_call 63;refine hor.mono ?_;rintro e w' ⟨rfl,rfl⟩)
 go_ret
 have xL:∃q os',W2.alloc (.cells #[.int .i64 A,.int .i64 B,.int .i64 C] 3)=grow (W.drewN q) os':=
  ⟨1,(#[.cells #[.int .i64 x1,.int .i64 x2,.int .i64 x3] 56]++#[.cells #[.int .i64 y1,.int .i64 y2,.int .i64 y3] 56])++#[.cells #[.int .i64 A,.int .i64 B,.int .i64 C] 3],by rw[alloc_eq_grow,HG.out,grow_grow]⟩
 exact⟨rfl,xL⟩
end Go.Proofs
namespace Go.Co
open Go Go.Conc Go.Proofs Go.Sort Go.Shelf
def SQ(x y:Sm):Prop:=x.1<y.1\/(x.1=y.1/\(x.2.1<y.2.1\/(x.2.1=y.2.1/\x.2.2<y.2.2)))
theorem Bx(x y:Int):(x<y/\Lib.compareInt x y=-1)\/(x=y/\Lib.compareInt x y=0)\/(y<x/\Lib.compareInt x y=1):=by
 unfold Lib.compareInt;by_cases h1:x<y;.exact .inl ⟨h1,by rw[if_pos h1]⟩
 by_cases h2:y<x;.exact .inr (.inr ⟨h2,by rw[if_neg h1,if_pos h2]⟩)
 exact .inr (.inl ⟨by omega,by rw[if_neg h1,if_neg h2]⟩)
theorem lt_iff(x y:Sm):ltOf yQ x y=true↔SQ x y:=by obtain⟨x1,x2,x3⟩:=x;obtain⟨y1,y2,y3⟩:=y;unfold ltOf yQ YI SQ;simp only[cC];rcases Bx x1 y1 with ⟨h1,e1⟩|⟨h1,e1⟩|⟨h1,e1⟩<;>rcases Bx x2 y2 with ⟨h2,e2⟩|⟨h2,e2⟩|⟨h2,e2⟩<;>rcases Bx x3 y3 with ⟨h3,e3⟩|⟨h3,e3⟩|⟨h3,e3⟩<;>simp[e1,e2,e3]<;>omega
theorem Et(x y:Sm):ltOf yQ x y=false↔¬SQ x y:=by rw[<-lt_iff];simp
theorem af0:SWO (ltOf yQ) where
 irrefl x:=by rw[Et];unfold SQ;omega
 trans x y z h1 h2:=by rw[lt_iff]at*;unfold SQ at*;omega
 ntrans x y z h1 h2:=by rw[Et]at*;unfold SQ at*;omega
theorem RB{d:Array Sm}{R:List Sm}(hp:d.toList.Perm R)(hs:SortedIn (ltOf yQ) 0 d.size d)(hR:R.Pairwise SQ):d.toList=R:=by
 refine List.Perm.eq_of_pairwise (le:=λx y=>¬SQ y x) (λa b _ _ h1 h2=>?_) ?_ (hR.imp λ{a b} h=>?_) hp
 .obtain⟨a1,a2,a3⟩:=a;obtain⟨b1,b2,b3⟩:=b;unfold SQ at h1 h2;simp only at h1 h2;have e1:a1=b1:=by omega
  have e2:a2=b2:=by omega
  have e3:a3=b3:=by omega
  rw[e1,e2,e3]
 .rw[List.pairwise_iff_getElem];intro i j hi hj OL;have h:=hs i j (mw _) OL (by simpa using hj);rw[Et]at h;simp only[zw]at hi hj;rw[s7 d i hi,s7 d j hj]at h;simpa using h
 unfold SQ at*;omega
def Yz(l:List Int):Prop:=l.Pairwise (·<·)
theorem NV(low up:List Int)(cH:Int):Yz (oO low up cH):=by unfold Yz oO lp;refine List.Pairwise.filter _ ?_;rw[List.pairwise_map];exact List.pairwise_lt_range.imp λ{a b} h=>by omega
theorem RE{da db:Wk}(ha:Yz da.bw)(hb:Yz db.bw):(ez da db).Pairwise SQ:=by
 unfold ez;rw[List.pairwise_flatMap];refine⟨λx _=>?_,ha.imp λ{x x'} h=>?_⟩
 .rw[List.pairwise_flatMap];refine⟨λy _=>?_,hb.imp λ{y y'} h=>?_⟩;.rw[List.pairwise_map];exact(NV _ _ _).imp λ{s s'} h=>.inr ⟨rfl,.inr ⟨rfl,h⟩⟩
  intro m hm m' HQ;obtain⟨s,_,rfl⟩:=dL.1 hm;obtain⟨s',_,rfl⟩:=dL.1 HQ;exact .inr ⟨rfl,.inl h⟩
 intro m hm m' HQ;obtain⟨y,_,hm⟩:=nN.1 hm;obtain⟨y',_,HQ⟩:=nN.1 HQ;obtain⟨s,_,rfl⟩:=dL.1 hm;obtain⟨s',_,rfl⟩:=dL.1 HQ;exact .inl h
theorem Hw(d:Array Sm):(flatK sN 3 d).toList=d.toList.flatMap sN:=by
 apply mD;intro t;have hlen:(d.toList.flatMap sN).length=d.size*3:=by rw[IV];simp
 by_cases ht:t<d.size*3
 .have h1:=get_flatK sN 3 d t ht;rw[s7 _ t (by simpa using ht)]at h1;rw[kY,cr (by simpa using ht),h1];have key:∀(l:List Sm)(t:Nat),t<l.length*3->(l.flatMap sN)[t]? =some ((sN (l[t/3]!))[t % 3]!):=by
   intro l;induction l with
   |nil=>intro t h;simp at h
   |cons m l ih=>
    intro t h;rw[cM];by_cases h3:t<3
    .have e0:t/3=0:=by omega
     have e1:t % 3=t:=by omega
     rw[e0,e1,er (by simpa [sN]using h3)];have:t=0\/t=1\/t=2:=by omega
     rcases this with rfl|rfl|rfl<;>rfl
    obtain⟨s,rfl⟩:∃s,t=s+3:=⟨t-3,by omega⟩;have e0:(s+3)/3=s/3+1:=by omega
    have e1:(s+3) % 3=s % 3:=by omega
    rw[e0,e1,iu (by simp[sN])];have:=ih s (by simp at h;omega);simpa [sN]using this
  rw[key d.toList t (by simpa using ht)];congr 3;have hd:t/3<d.size:=by omega
  rw[s7 d _ hd,s7 d.toList _ (by simpa using hd)];simp
 rw[fu (by simp;omega),fu (by omega)]
theorem Of{w:World}{g:Nat}{cur:Array Value}{e:TypeId}{d:Array Sm}(hb:w.heap[g]? =some (.cells cur e (0,0)))(ht:cur.toList.take (d.size*3)=d.toList.flatMap sN):HoldsK sN 3 w g 0 d:=by
 intro j hj;rw[size_flatK]at hj;refine⟨?_,by simp[World.frozen?,hb]⟩;have h1:(cur.toList.take (d.size*3))[j]? =(flatK sN 3 d).toList[j]? :=by rw[ht,Hw]
 rw[List.getElem?_take_of_lt hj]at h1;simp only[World.cell?,hb,jr];simp only[Option.isSome_none,aG,if_false];rw[<-kY,h1,kY,cr (by simpa using hj),s7 _ j (by simpa using hj)];rfl
theorem SC{w:World}{g n:Nat}{os:Array Obj}{cur:Array Value}{e:TypeId}{fr:Nat×Nat}(d:Array Sm)(hb:w.heap[g]? =some (.cells cur e fr)):
  (sortWorldK sN 3 w g 0 n d os).heap[g]? =some (.cells (putCells id 0 (flatK sN 3 d) cur) e fr):=by
 have hg:g<w.heap.size:=(aL.1 hb).1;unfold sortWorldK putRowK;rw[heap_grow_old _ _ (by simpa using hg)];simp[putRow,mapBlock,Sort.ahead,Array.getElem?_modify,hb,onCells]
theorem JJ{w:World}{g n:Nat}{os:Array Obj}(d:Array Sm):w.grownBy (sortWorldK sN 3 w g 0 n d os) (some g):=by unfold sortWorldK putRowK;refine⟨rfl,rfl,rfl,by simp,λk hk hne=>?_⟩;rw[heap_grow_old _ _ (by simpa using hk)];have:g≠k:=λe=>hne (by rw[e]);simp[putRow,mapBlock,Sort.ahead,Array.getElem?_modify,this]
theorem JD{w:World}{base g cap n:Nat}{e:TypeId}{os:Array Obj}{cur:Array Value}{d:Array Sm}(uD:base<=g)(hb:w.heap[g]? =some (.cells cur e (0,0)))
  (h1:d.size<=cap) (h2:cap<=maxLen) (h3:cur.size=cap*3):
  (sortWorldK sN 3 w g 0 n d os).ownsRow base e 3 (.slice (some ⟨g,0,none⟩) d.size cap) d.size (d.toList.flatMap sN):=by
 refine⟨by rw[IV];simp,.inr ⟨g,cap,_,rfl,uD,SC d hb,h1,h2,by simp[putCells,h3],?_⟩⟩;rw[<-Hw];apply mD;intro j;by_cases hj:j<d.size*3
 .rw[List.getElem?_take_of_lt hj,kY,kY];have hc:j<cur.size:=by omega
  simp[putCells,hj,hc]
 rw[List.getElem?_take_eq_none (by omega),fu (by simp;omega)]
end Go.Co
namespace Go.Co
open Go Go.Proofs
open Go.Extern.RuntimeError
variable {P:Program}
theorem t_described(v:Value):T1 P (described v):=by
 unfold described
 (repeat' first|exact TC.out|(with_reducible refine aN ?_ (λ_=>?_))|(with_reducible refine jF ?_ ?_)|split|dsimp only)
theorem t_text(s:String):T1 P (text s):=aY trivial
theorem t_pkgpathOf(i:TypeInfo):T1 P (pkgpathOf i):=by
 unfold pkgpathOf
 (repeat' first|exact TC.out|(with_reducible refine aN ?_ (λ_=>?_))|(with_reducible refine jF ?_ ?_)|split|dsimp only)
theorem t_boundsError(args:Array Value):T1 P (boundsError args):=by
 unfold boundsError;rcases args with ⟨_|⟨x,_|⟨y,l⟩⟩⟩;.exact aH _
 rotate_left
 .exact aH _
 cases x<;>try exact aH _
 rename_i cs;rcases cs with ⟨_|⟨a,_|⟨b,_|⟨c,_|⟨d,_|⟨e,l⟩⟩⟩⟩⟩⟩<;>try exact aH _
 cases a<;>try exact aH _
 cases b<;>try exact aH _
 cases c<;>try exact aH _
 cases d<;>try exact aH _
 rename_i k x k1 y signed k2 code;show T1 P (match(if(signed&&decide (x<0))=true then boundsNegErrorFmts else boundsErrorFmts)[code.toNat]? with
  |some fmt=>text ("runtime error: "++(fmt.replace "%x" (toString (if signed=true then x else IntKind.u64.wrap x))).replace "%y" (toString y))
  |none=>stuck "boundsError: no such code")
 split;.exact t_text _
 exact aH _
theorem t_nothing(args:Array Value):T1 P (nothing args):=aY trivial
theorem t_unhashable(args:Array Value):T1 P (unhashableTypeError args):=by
 unfold unhashableTypeError;rcases args with ⟨_|⟨x,_|⟨y,l⟩⟩⟩;.exact aH _
 rotate_left
 .exact aH _
 cases x<;>try exact aH _
 rename_i cs;rcases cs with ⟨_|⟨a,_|⟨b,l⟩⟩⟩<;>try exact aH _
 refine(?_:T1 P (described a>>=_));refine aN (t_described a) λo=>?_;cases o with
 |none=>exact TC.out
 |some t=>exact t_text _
theorem t_typeAssertion(args:Array Value):T1 P (typeAssertionError args):=by
 unfold typeAssertionError
 (repeat' first|exact TC.out|exact t_text _|exact t_described _|exact t_pkgpathOf _|(with_reducible refine aN ?_ (λ_=>?_))|(with_reducible refine jF ?_ ?_)|split|dsimp only)
theorem fd0:Extern.find Try.f0=none:=by kernel_rfl
theorem fd1:Extern.find Try.f1=none:=by kernel_rfl
theorem ag6:Extern.find Try.f106=some boundsError:=by kernel_rfl
theorem ag5:Extern.find Try.f107=some nothing:=by kernel_rfl
theorem ag4:Extern.find Try.f108=some (λargs=>do pure (.string ("runtime error: ".toUTF8++(<-asString (args.getD 0 (.tuple #[])))))):=by kernel_rfl
theorem ag3:Extern.find Try.f109=some nothing:=by kernel_rfl
theorem ag2:Extern.find Try.f110=some (λargs=>do pure (.string (<-asString (args.getD 0 (.tuple #[]))))):=by kernel_rfl
theorem ag1:Extern.find Try.f111=some nothing:=by kernel_rfl
theorem ag0:Extern.find Try.f112=some (λargs=>do pure (.string ("runtime error: ".toUTF8++(<-asString ((<-asAgg (args.getD 0 (.tuple #[]))).getD 0 (.tuple #[])))))):=by kernel_rfl
theorem agZ:Extern.find Try.f113=some nothing:=by kernel_rfl
theorem agY:Extern.find Try.f114=some typeAssertionError:=by kernel_rfl
theorem agX:Extern.find Try.f115=some nothing:=by kernel_rfl
theorem agW:Extern.find Try.f116=some (λ_=>text "runtime error: panic called with nil argument"):=by kernel_rfl
theorem agV:Extern.find Try.f117=some nothing:=by kernel_rfl
theorem agU:Extern.find Try.f118=none:=by kernel_rfl
theorem agT:Extern.find Try.f119=some unhashableTypeError:=by kernel_rfl
theorem agS:Extern.find Try.f120=some nothing:=by kernel_rfl
theorem agR:Extern.find Try.f121=none:=by kernel_rfl
theorem agQ:Extern.find Try.f122=some (λargs=>do pure (strVal (Extern.Rtype.kindName (<-asInt (args.getD 0 (.tuple #[]))).toNat))):=by kernel_rfl
theorem ae2:(Try.prog.funcs.toList.zipIdx.all λ(f,i)=>!f.body.isNone||i==0||i==1||(decide (106<=i)&&decide (i<=122)))=true:=by kernel_rfl
theorem af1:Try.prog.funcs.size=123:=by kernel_rfl
theorem agl:(Try.prog.funcs.toList.all λf=>!f.body.isNone||(Extern.findNext f).isNone)=true:=by kernel_rfl
theorem names:(Try.prog.funcs.toList.all λf=>!(f.name=="runtime.NumGoroutine"))=true:=by kernel_rfl
theorem agn:(Try.prog.funcs.toList.all λf=>!f.norace)=true:=by kernel_rfl
theorem Bm{f:FuncId}{fn:Func}(h:Try.prog.funcs[f]? =some fn):fn∈Try.prog.funcs.toList:=by obtain⟨hlt,rfl⟩:=aL.1 h;exact Array.getElem_mem_toList hlt
theorem aer(f:Nat)(h:f=0\/f=1\/(106<=f/\f<=122)):f=0\/f=1\/f=106\/f=107\/f=108\/f=109\/f=110\/f=111\/f=112\/f=113\/f=114\/f=115\/f=116\/f=117\/f=118\/f=119\/f=120\/f=121\/f=122:=by omega
theorem lP:Plain Try.prog where
 count f fn h:=by have:=aT.1 names fn (Bm h);simpa using this
 quiet f:=by
  cases h:Try.prog.funcs[f]? with
  |none=>rfl
  |some fn=>have:=aT.1 agn fn (Bm h);simpa using this
 next f fn h hb:=by have:=aT.1 agl fn (Bm h);simpa [hb]using this
 find f fn e h hb he args:=by
  have hlt:f<123:=by rw[<-af1];exact(aL.1 h).1
  have hz:(fn,f)∈Try.prog.funcs.toList.zipIdx:=by rw[wm];simpa using h
  have h1:=aT.1 ae2 _ hz;have h2:f=0\/f=1\/(106<=f/\f<=122):=by
   simp only[hb,gr,Bool.false_or,gP,aA,dU,cC]at h1;rcases h1 with (h1|h1)|h1;.exact .inl h1
   .exact .inr (.inl h1)
   exact .inr (.inr h1)
  have pick:∀{i:Nat}{g:Func},f=i->Try.prog.funcs[i]? =some g->fn=g:=λhi hg=>by subst hi;rw[hg]at h;exact(cB h).symm
  have aeX:f=0\/f=1\/f=106\/f=107\/f=108\/f=109\/f=110\/f=111\/f=112\/f=113\/f=114\/f=115\/f=116\/f=117\/f=118\/f=119\/f=120\/f=121\/f=122:=aer f h2;rcases aeX with hi|hi|hi|hi|hi|hi|hi|hi|hi|hi|hi|hi|hi|hi|hi|hi|hi|hi|hi;.rw[pick hi Try.func0]at he;rw[fd0]at he;cases he
  .rw[pick hi Try.func1]at he;rw[fd1]at he;cases he
  .rw[pick hi Try.func106]at he;rw[ag6]at he;cases he;exact t_boundsError _
  .rw[pick hi Try.func107]at he;rw[ag5]at he;cases he;exact t_nothing _
  .rw[pick hi Try.func108]at he;rw[ag4]at he;cases he
   (repeat' first|exact TC.out|(with_reducible refine aN ?_ (λ_=>?_))|(with_reducible refine jF ?_ ?_)|split|dsimp only)
  .rw[pick hi Try.func109]at he;rw[ag3]at he;cases he;exact t_nothing _
  .rw[pick hi Try.func110]at he;rw[ag2]at he;cases he
   (repeat' first|exact TC.out|(with_reducible refine aN ?_ (λ_=>?_))|(with_reducible refine jF ?_ ?_)|split|dsimp only)
  .rw[pick hi Try.func111]at he;rw[ag1]at he;cases he;exact t_nothing _
  .rw[pick hi Try.func112]at he;rw[ag0]at he;cases he
   (repeat' first|exact TC.out|(with_reducible refine aN ?_ (λ_=>?_))|(with_reducible refine jF ?_ ?_)|split|dsimp only)
  .rw[pick hi Try.func113]at he;rw[agZ]at he;cases he;exact t_nothing _
  .rw[pick hi Try.func114]at he;rw[agY]at he;cases he;exact t_typeAssertion _
  .rw[pick hi Try.func115]at he;rw[agX]at he;cases he;exact t_nothing _
  .rw[pick hi Try.func116]at he;rw[agW]at he;cases he;exact t_text _
  .rw[pick hi Try.func117]at he;rw[agV]at he;cases he;exact t_nothing _
  .rw[pick hi Try.func118]at he;rw[agU]at he;cases he
  .rw[pick hi Try.func119]at he;rw[agT]at he;cases he;exact t_unhashable _
  .rw[pick hi Try.func120]at he;rw[agS]at he;cases he;exact t_nothing _
  .rw[pick hi Try.func121]at he;rw[agR]at he;cases he
  rw[pick hi Try.func122]at he;rw[agQ]at he;cases he
  (repeat' first|exact TC.out|(with_reducible refine aN ?_ (λ_=>?_))|(with_reducible refine jF ?_ ?_)|split|dsimp only)
end Go.Co
namespace Go.Proofs
open Go.Shelf Go.RowKit Go.Lib Go.Sort
theorem Try.Oe (v:Value)(w:World):Calls Try.prog 84 #[.slice none 0 0,.int .i64 0,.int .i64 0,v] w λe w'=>e=.returned (.tuple #[])/\w'=w:=by
 go_enter Try.func84,Try.ntmps84
 go_wp2
 go_loop [8] (λi=>i=.int .i64 1) (λ_=>0)
 case atStart=>rfl
 case round=>
  subst hrel
  go_wp2
  go_end0
  exact⟨rfl,rfl⟩
theorem Try.N5 (l:Int)(v:Value)(w:World):Calls Try.prog 77 #[.slice none 0 0,.int .i64 0,.int .i64 0,.int .i64 l,v] w λe w'=>e=.returned (.tuple #[])/\w'=w:=by
 have hi:=Try.Oe v
 go_enter Try.func77,Try.ntmps77
 go_wp2
 go_loop [1,2] (λa b=>a=.int .i64 0/\b=.int .i64 0) (λ_ _=>0)
 case atStart=>exact⟨rfl,rfl⟩
 case round=>
  obtain⟨rfl,rfl⟩:=hrel
  go_wp2_with (go_at_call 84;refine(hi _).mono ?_;rintro e w' ⟨rfl,rfl⟩)
  exact⟨rfl,.tuple #[],results_none (by rfl) _ _ _,rfl,rfl⟩
theorem Try.XG (w:World):Calls Try.prog 78 #[.int .u64 0] w λe w'=>e=.returned (.int .i64 (Lib.bitLen 0:Nat))/\w'=w:=by have h:=Any.bits_Len (SlLaysF0.n15.bits (P:=Try.prog) {Try.KX with}) (0:Int) w (by omega) (by omega);exact h
theorem Try.NT (v:Value)(w:World):Calls Try.prog 61 #[.slice none 0 0,v] w λe w'=>e=.returned (.tuple #[])/\w'=w:=by
 have hl:=Try.XG;have hp:=λl=>Try.N5 l v
 go_enter Try.func61,Try.ntmps61
 go_wp2_with (first|(go_at_call 78;refine(hl _).mono ?_;rintro e w' ⟨rfl,rfl⟩)|(go_at_call 77;refine(hp _ _).mono ?_;rintro e w' ⟨rfl,rfl⟩))
 go_end0
 exact⟨rfl,rfl⟩
end Go.Proofs
