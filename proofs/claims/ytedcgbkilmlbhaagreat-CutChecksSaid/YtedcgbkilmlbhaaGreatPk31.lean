import Derived.Test.YtedcgbkilmlbhaaGreatPk30
import Derived.Conc.SmallLaws
import Derived.Shelf.SlSortCmp.WholeK
import Derived.Shelf.SlicesG.Cmp
import Derived.Shelf.Lay
import Derived.Ground.SlsfProg
import Derived.Ground.SlgcProg
import Derived.WalkKit
import Derived.WalkSpells
import Derived.WalkLawsBesides
import Derived.StillTailTactics
import Derived.Deep.QuietTactic
import Derived.BigQuiet
import Derived.Lib.Hide
import Derived.Test.YtedcgbkilmlbhaaGreatPk19
import Derived.Test.YtedcgbkilmlbhaaGreatChecked
import Derived.KernelRfl
import Derived.Test.YtedcgbkilmlbhaaGreatPk24
section
namespace Go.Co
open Go Go.Conc Go.Proofs
open Classical
variable {P:Program} {af:Machine→Trace→Prop} {γ:So} {w:World}
theorem aaI {fn:FuncId} {c:Code} {a:Act} {Q:Gm→Exit→Act→World→Prop} (h:∀ w1,gb γ w w1→KJ (ff P af) fn () c (fun _ e a w'=>∃ γ',Q (.bad,γ') e a w') a w1):KJ (Ka P af) fn (.bad,γ) c Q a w:=by
 intro b k cs hb hk hc _ w1 r
 refine h w1 r b k cs hb hk fun _ e a' w' q => ?_
 obtain⟨γ',q⟩:=q
 have h:=hc _ _ _ _ q
 cases e with
 | normal=>exact h rfl w' (fJ _ _)
 | exit id =>
  obtain⟨k',h1,h2⟩:=h
  exact⟨k',h1,h2 rfl w' (fJ _ _)⟩
 | ret=>exact fun todo=>h todo rfl w' (fJ _ _)
 | goto l=>exact h
 | panic ch=>exact h
 | outgrown=>exact h
structure rz (γ:So) (w:World) (cs:Array Value) (d:Wk):Prop where
 bH:cs[2]? = some (.int .i64 d.bH)
 aQ:∃ v,cs[3]? = some v∧uQ γ w v d.aQ
 up:∀ i,i<4→∃ v,cs[4+i*2]? = some v∧uQ γ w v (d.up i)
 lo:∀ i,i<4→∃ v,cs[4+i*2+1]? = some v∧uQ γ w v (d.lo i)
theorem rz.kept {cs:Array Value} {d:Wk} {γ':So} {w':World} (h:rz γ w cs d) (k:Kept γ w γ' w'):rz γ' w' cs d :=
 ⟨h.bH,h.aQ.imp fun _ ⟨h1,h2⟩=>⟨h1,k.B2 h2⟩,fun i hi=>(h.up i hi).imp fun _ ⟨h1,h2⟩=>⟨h1,k.B2 h2⟩,fun i hi=>(h.lo i hi).imp fun _ ⟨h1,h2⟩=>⟨h1,k.B2 h2⟩⟩
theorem rz.boxed {cs:Array Value} {d:Wk} {t:TypeId} (h:rz γ w cs d):er (γ.more w.heap.size) (w.alloc (.cells cs t)) w.heap.size d:=by
 have k:=Kept.alloc γ w w.heap.size (.cells cs t)
 exact⟨aT.fresh rfl h.bH,h.aQ.imp fun _ ⟨h1,h2⟩=>⟨aT.fresh rfl h1,k.B2 h2⟩,fun i hi=>(h.up i hi).imp fun _ ⟨h1,h2⟩=>⟨aT.fresh rfl h1,k.B2 h2⟩,fun i hi=>(h.lo i hi).imp fun _ ⟨h1,h2⟩=>⟨aT.fresh rfl h1,k.B2 h2⟩⟩
def Ch (γ:So) (w:World) (c:Nat):Prop:=γ.all c∧w.heap[c]? = some (.chan 0 #[] false 0 0 false)
theorem Ch.lt {c:Nat} (h:Ch γ w c):c<w.heap.size:=(Array.getElem?_eq_some_iff.1 h.2).1
theorem Ch.kept {c:Nat} {γ':So} {w':World} (h:Ch γ w c) (k:Kept γ w γ' w'):Ch γ' w' c:=⟨k.all h.1,(k.blk c h.1 h.lt).trans h.2⟩
def Yv (w:World) (cf cl:Nat):So:=(fun b=>b<w.heap.size∧b≠cf∧b≠cl,fun _=>False)
theorem aT.shr {cf cl:Nat} {ad:Addr} {v:Value} (hf:Ch γ w cf) (hl:Ch γ w cl) (h:aT γ w ad v):aT (Yv w cf cl) w ad v:=by
 refine⟨.inl ⟨h.lt,fun e => ?_,fun e => ?_⟩,h.2⟩
 ·have:=h.2; simp[World.cell?,e,hf.2] at this
 ·have:=h.2; simp[World.cell?,e,hl.2] at this
theorem uQ.shr {cf cl:Nat} {v:Value} {l:List Int} (hf:Ch γ w cf) (hl:Ch γ w cl) (h:uQ γ w v l):uQ (Yv w cf cl) w v l:=by
 obtain⟨A,cap,rfl,h⟩:=h
 exact⟨A,cap,rfl,fun i x hx=>by obtain⟨ad,h1,h2⟩:=h i x hx; exact⟨ad,h1,h2.shr hf hl⟩⟩
theorem er.shr {cf cl b:Nat} {d:Wk} (hf:Ch γ w cf) (hl:Ch γ w cl) (h:er γ w b d):er (Yv w cf cl) w b d :=
 ⟨h.bH.shr hf hl,h.aQ.imp fun _ ⟨h1,h2⟩=>⟨h1.shr hf hl,h2.shr hf hl⟩,fun i hi=>(h.up i hi).imp fun _ ⟨h1,h2⟩=>⟨h1.shr hf hl,h2.shr hf hl⟩,fun i hi=>(h.lo i hi).imp fun _ ⟨h1,h2⟩=>⟨h1.shr hf hl,h2.shr hf hl⟩⟩
def Old (A:Nat→Prop) (B0:Nat) (w0 w:World):Prop:=(∀ b,A b→w.heap[b]? = w0.heap[b]?)∧B0≤w.heap.size∧w.os=w0.os∧w.output=w0.output
def N3 (af:Machine→Trace→Prop) (R:List Sm):Prop:=∀ A B0 w0 γ' a' w',Wn A B0 w0 R (.ret,γ') .normal a' w' →
 KJ (ff Tryz.prog af) 60 () CD (fun _ e a w=>e = .ret∧a.defers=[]∧Old A B0 w0 w∧w.ownsRow B0 79 3 (a.tmps.getD 4 undef) R.length (R.flatMap nA)) a' w'
theorem SH:(Tryz.prog.info? 136).map (fun i=>(i.zero,i.size,i.bytes))=some (some (.chan none),1,8):=by kernel_rfl
theorem SG:(Tryz.prog.info? 137).map (fun i=>(i.zero,i.size,i.bytes))=some (some (.chan none),1,8):=by kernel_rfl
set_option maxRecDepth 100000 in
set_option maxHeartbeats 2000000 in
theorem FD (hP:Plain Tryz.prog) {ca cb:Array Value} {da db:Wk} (oF:da.ok) (vY:db.ok) (YN:rz γ w ca da) (YM:rz γ w cb db) (hT:N3 af (cW da db)) :
  tM (Ka Tryz.prog af) Tryz.prog (.bad,γ) 60 #[.agg ca,.agg cb] w fun γ' v w'=>γ'.1 = .bad∧Kept γ w γ'.2 w'∧iQ γ'.2 w' w.heap.size 79 3 v (cW da db).length ((cW da db).flatMap nA):=by
 have C:=SD (af:=af) hP
 have hp:Pc.bad≠Pc.ret:=by simp
 obtain⟨i71,h71,-,-,b71⟩:=info_parts GN
 obtain⟨i4,h4,-,-,b4⟩:=info_parts Uq
 obtain⟨i138,acC,z138,-,-⟩:=info_parts SH
 obtain⟨i139,acB,z139,-,-⟩:=info_parts SG
 refine za Tryz.func60 (by rfl) rfl ?_
 simp only[Tryz.ntmps60,List.size_toArray,List.length_cons,List.length_nil,Nat.reduceAdd,Nat.reduceSub,Array.replicate_succ,Array.replicate_zero,List.push_toArray,List.append_toArray,List.nil_append,List.cons_append]
 show KJ _ _ _ (.seq (.region _ _ false) (.seq (.region _ _ false) (.seq (.region _ _ false) nH))) _ _ _
 refine aM C (bz C ?_)
 refine mB C hp (ob := ?ob1) rfl (by rfl) (fun w=>run_eq_of fun K hK => ?r1) (fun w => ?e1) ?h1
 case r1=>go_simp; exact hK
 case e1=>simp[go_sem]
 intro w1 L5
 try walk_nrm
 have oB:=(Kept.rely L5).trans (Kept.alloc γ w1 w1.heap.size (.cells ca 94))
 have P5:er (γ.more w1.heap.size) (w1.alloc (.cells ca 94)) w1.heap.size da:=(YN.kept (Kept.rely L5)).boxed
 have Zz:=YM.kept oB
 generalize w1.alloc (.cells ca 94)=W1 at *
 generalize γ.more w1.heap.size=γ1 at *
 generalize w1.heap.size=b2 at *
 clear L5
 refine mB C hp (ob := ?ob2) rfl (by rfl) (fun w=>run_eq_of fun K hK => ?r2) (fun w => ?e2) ?h2
 case r2=>go_simp; exact hK
 case e2=>simp[go_sem]
 intro w2 LD
 try walk_nrm
 have DU:=(Kept.rely LD).trans (Kept.alloc γ1 w2 w2.heap.size (.cells cb 94))
 have AV:er (γ1.more w2.heap.size) (w2.alloc (.cells cb 94)) w2.heap.size db:=(Zz.kept (Kept.rely LD)).boxed
 have Ii:=P5.kept DU
 have H7:=oB.trans DU
 generalize w2.alloc (.cells cb 94)=W2 at *
 generalize γ1.more w2.heap.size=γ2 at *
 generalize w2.heap.size=b3 at *
 clear LD DU oB P5 Zz
 refine aj C ?_
 try walk_nrm
 refine aG C ?_
 co_then
 have hk:=H7
 have ha:=Ii
 have hb:=AV
 clear H7 Ii AV
 refine aM C (bz C ?_)
 refine Cu C hp (f:=fun n => .chan (some n)) (ob := .chan 0 #[] false 0 0 false) rfl (by rfl) (fun w => ?_) (fun w => ?_) ?_
 ·have h:(Instr.makeChan 136 (.int .i64 0)).run Tryz.prog w=_:=run_makeChan (P:=Tryz.prog) (w:=w) Tryz.underlying136 h71 .i64 0 (by omega) (by rw[b71]; omega)
  simp[execOp,Act.eval,h]
 ·have h:(Instr.makeChan 136 (.int .i64 0)).events Tryz.prog w #[]=_:=events_makeChan (P:=Tryz.prog) (w:=w) Tryz.underlying136 h71 .i64 0 (by omega) (by rw[b71]; omega) #[]
  simp[execOp,Act.eval,h]
 intro Qg Vz
 try walk_nrm
 have s6:=(Kept.rely Vz).trans (Kept.alloc _ Qg Qg.heap.size (.chan 0 #[] false 0 0 false))
 have TG:Ch (So.more γ2 Qg.heap.size) (Qg.alloc (.chan 0 #[] false 0 0 false)) Qg.heap.size:=⟨.inr (.inr rfl),heap_alloc_new Qg _⟩
 have acT:w.heap.size≤Qg.heap.size:=Nat.le_trans hk.size Vz.1
 replace hk:=hk.trans s6
 replace ha:=ha.kept s6
 replace hb:=hb.kept s6
 generalize Qg.alloc (.chan 0 #[] false 0 0 false)=Wpa at *
 generalize Qg.heap.size=cf at *
 generalize So.more γ2 cf=γpa at *
 clear s6 Vz
 refine mB C hp (ob := .cells #[.chan none] 136) rfl (by rfl) (fun w=>run_eq_of fun K hK => ?r4) (fun w => ?e4) ?h4
 case r4=>go_simp; exact hK
 case e4=>simp[execOp,Instr.alloc,zeroValue,typeInfo,acC,z138,newVar,newRow]
 intro LX Vy
 try walk_nrm
 have s6:=(Kept.rely Vy).trans (Kept.alloc _ LX LX.heap.size (.cells #[.chan none] 136))
 have hz:(LX.alloc (.cells #[.chan none] 136)).frozen? ⟨LX.heap.size,0,none⟩=false:=World.frozen?_alloc_new _ _ _ _
 have hs:aT _ _ ⟨LX.heap.size,0,none⟩ (.chan none):=aT.fresh (γ:=γpa) (w:=LX) (cs:=#[.chan none]) (t:=136) rfl rfl
 have hO:(So.more γpa LX.heap.size).2 LX.heap.size := .inr rfl
 have DK:Wpa.heap.size≤LX.heap.size:=Vy.1
 generalize LX.alloc (.cells #[.chan none] 136)=Wpb at *
 generalize LX.heap.size=b5 at *
 generalize So.more γpa b5=γpb at *
 clear Vy
 refine GL C hp (ad:=⟨b5,0,none⟩) (v := .chan (some cf)) rfl (by rfl) hO (fun w₁ h₁=>⟨?_,?_⟩) ?_
 ·have hc:=(hs.rely h₁).2
  have LI:w₁.frozen? ⟨b5,0,none⟩=false:=(World.frozen?_of_block (h₁.2.1 b5 (.inr hO))).trans hz
  refine(?_:∀ K:Result Next→Prop,K (.ok .skip (w₁.setCell ⟨b5,0,none⟩ (.chan (some cf))))→K _) (· = _) rfl
  intro K hK
  go_simp
  try (unfold stored; go_simp)
  exact hK
 ·have hc:=(hs.rely h₁).2
  have LI:w₁.frozen? ⟨b5,0,none⟩=false:=(World.frozen?_of_block (h₁.2.1 b5 (.inr hO))).trans hz
  intro e he
  simp[go_sem,hc,LI] at he
  exact he
 intro wpc Vx
 try walk_nrm
 replace s6:=(s6.trans (Kept.rely Vx)).put (ad:=⟨b5,0,none⟩) (v := .chan (some cf)) DK
 have Y7:aT γpb (wpc.setCell ⟨b5,0,none⟩ (.chan (some cf))) ⟨b5,0,none⟩ (.chan (some cf)):=⟨.inr hO,World.cell?_setCell_same _ _ _ (hs.rely Vx).2⟩
 generalize wpc.setCell ⟨b5,0,none⟩ (.chan (some cf))=Wpc at *
 replace hk:=hk.trans s6
 replace TG:=TG.kept s6
 replace ha:=ha.kept s6
 replace hb:=hb.kept s6
 clear s6 hs hz DK hO Vx
 refine aG C ?_
 co_then
 refine aM C (bz C ?_)
 refine Cu C hp (f:=fun n => .chan (some n)) (ob := .chan 0 #[] false 0 0 false) rfl (by rfl) (fun w => ?_) (fun w => ?_) ?_
 ·have h:(Instr.makeChan 137 (.int .i64 0)).run Tryz.prog w=_:=run_makeChan (P:=Tryz.prog) (w:=w) Tryz.underlying137 h4 .i64 0 (by omega) (by rw[b4]; omega)
  simp[execOp,Act.eval,h]
 ·have h:(Instr.makeChan 137 (.int .i64 0)).events Tryz.prog w #[]=_:=events_makeChan (P:=Tryz.prog) (w:=w) Tryz.underlying137 h4 .i64 0 (by omega) (by rw[b4]; omega) #[]
  simp[execOp,Act.eval,h]
 intro PN QJ
 try walk_nrm
 have hne:cf≠PN.heap.size:=Nat.ne_of_lt (TG.kept (Kept.rely QJ)).lt
 have s6:=(Kept.rely QJ).trans (Kept.alloc _ PN PN.heap.size (.chan 0 #[] false 0 0 false))
 have qJ:Ch (So.more γpb PN.heap.size) (PN.alloc (.chan 0 #[] false 0 0 false)) PN.heap.size:=⟨.inr (.inr rfl),heap_alloc_new PN _⟩
 have acS:w.heap.size≤PN.heap.size:=Nat.le_trans hk.size QJ.1
 replace hk:=hk.trans s6
 replace ha:=ha.kept s6
 replace hb:=hb.kept s6
 replace TG:=TG.kept s6
 replace Y7:=(s6.sees Y7)
 generalize PN.alloc (.chan 0 #[] false 0 0 false)=Wqa at *
 generalize PN.heap.size=cl at *
 generalize So.more γpb cl=γqa at *
 clear s6 QJ
 refine mB C hp (ob := .cells #[.chan none] 137) rfl (by rfl) (fun w=>run_eq_of fun K hK => ?r5) (fun w => ?e5) ?h5
 case r5=>go_simp; exact hK
 case e5=>simp[execOp,Instr.alloc,zeroValue,typeInfo,acB,z139,newVar,newRow]
 intro LW Vw
 try walk_nrm
 have s6:=(Kept.rely Vw).trans (Kept.alloc _ LW LW.heap.size (.cells #[.chan none] 137))
 have hz:(LW.alloc (.cells #[.chan none] 137)).frozen? ⟨LW.heap.size,0,none⟩=false:=World.frozen?_alloc_new _ _ _ _
 have hs:aT _ _ ⟨LW.heap.size,0,none⟩ (.chan none):=aT.fresh (γ:=γqa) (w:=LW) (cs:=#[.chan none]) (t:=137) rfl rfl
 have hO:(So.more γqa LW.heap.size).2 LW.heap.size := .inr rfl
 have DK:Wqa.heap.size≤LW.heap.size:=Vw.1
 generalize LW.alloc (.cells #[.chan none] 137)=Wqb at *
 generalize LW.heap.size=b6 at *
 generalize So.more γqa b6=γqb at *
 clear Vw
 refine GL C hp (ad:=⟨b6,0,none⟩) (v := .chan (some cl)) rfl (by rfl) hO (fun w₁ h₁=>⟨?_,?_⟩) ?_
 ·have hc:=(hs.rely h₁).2
  have LI:w₁.frozen? ⟨b6,0,none⟩=false:=(World.frozen?_of_block (h₁.2.1 b6 (.inr hO))).trans hz
  refine(?_:∀ K:Result Next→Prop,K (.ok .skip (w₁.setCell ⟨b6,0,none⟩ (.chan (some cl))))→K _) (· = _) rfl
  intro K hK
  go_simp
  try (unfold stored; go_simp)
  exact hK
 ·have hc:=(hs.rely h₁).2
  have LI:w₁.frozen? ⟨b6,0,none⟩=false:=(World.frozen?_of_block (h₁.2.1 b6 (.inr hO))).trans hz
  intro e he
  simp[go_sem,hc,LI] at he
  exact he
 intro wqc Vv
 try walk_nrm
 replace s6:=(s6.trans (Kept.rely Vv)).put (ad:=⟨b6,0,none⟩) (v := .chan (some cl)) DK
 have hb6:aT γqb (wqc.setCell ⟨b6,0,none⟩ (.chan (some cl))) ⟨b6,0,none⟩ (.chan (some cl)):=⟨.inr hO,World.cell?_setCell_same _ _ _ (hs.rely Vv).2⟩
 generalize wqc.setCell ⟨b6,0,none⟩ (.chan (some cl))=Wqc at *
 replace hk:=hk.trans s6
 replace qJ:=qJ.kept s6
 replace ha:=ha.kept s6
 replace hb:=hb.kept s6
 replace TG:=TG.kept s6
 replace Y7:=(s6.sees Y7)
 clear s6 hs hz DK hO Vv
 refine aG C ?_
 co_then
 refine aaI fun w1 r1 => ?_
 have Ve:=Kept.rely r1
 have MC:=TG.kept Ve
 have MA:=qJ.kept Ve
 have oB:=hk.trans Ve
 have hS:DN (fun b=>γ.all b∧b<w.heap.size) w.heap.size w (Yv w1 cf cl) w1 :=
  ⟨fun b h=>h.2,fun b h => .inl ⟨Nat.lt_of_lt_of_le h.2 oB.size,by have:=h.2; omega,by have:=h.2; omega⟩,fun b h=>oB.blk b h.1 h.2,oB.size,oB.env⟩
 refine(?_:∀ a',(∃ u,a'=Ix b2 b3 b5 b6 u)→KJ _ _ _ nH _ a' _) _ (lN rfl)
 rintro a' ⟨u,rfl⟩
 have hW:∀ n,0<n→x6 (fun c=>c=cf∨c=cl) (entry n (chain cf cl (.bool true) (.bool false) false da.aQ.length (xF cf (.agg #[.int .i64 0,.int .i64 0,.int .i64 0]) ((cW da db).map qH)) (da.aQ.map fun x=>msgs da db x db.aQ))):=by
  intro n hn
  have h:=Fv (tv := .bool true) (z := .agg #[.int .i64 0,.int .i64 0,.int .i64 0]) (z2 := .bool false) (mG:=false) hne (da.aQ.map fun x=>msgs da db x db.aQ) hn
  rwa [List.length_map,SK] at h
 have fV:(chain cf cl (.bool true) (.bool false) false da.aQ.length (xF cf (.agg #[.int .i64 0,.int .i64 0,.int .i64 0]) ((cW da db).map qH)) (da.aQ.map fun x=>msgs da db x db.aQ)).live:=by
  obtain⟨x,y,h⟩:=FT (cf:=cf) (cl:=cl) (tv := .bool true) (z2 := .bool false) (mG:=false) da.aQ.length (xF cf (.agg #[.int .i64 0,.int .i64 0,.int .i64 0]) ((cW da db).map qH)) (da.aQ.map fun x=>msgs da db x db.aQ)
  rw[h]
  exact⟨by simp,by simp,by simp⟩
 refine Pj hP (Cs:=fun c=>c=cf∨c=cl) (S:=(Yv w1 cf cl).1) (O:=(Yv w1 cf cl).2) fV (fun b h=>h.elim) (fun b h=>h.elim (·.1) (·.elim)) (fun c hc => ?_) hW
  (Se hP oF vY hS ⟨(ha.kept Ve).shr MC MA,(hb.kept Ve).shr MC MA,(Ve.sees Y7).shr MC MA,(Ve.sees hb6).shr MC MA⟩ u (fun γ' a' w' hE=>tX (hT _ _ _ γ' a' w' hE) ?_))
 ·rcases hc with rfl | rfl
  ·exact⟨⟨0,false,MC.2⟩,fun h=>h.2.1 rfl,fun h=>h⟩
  ·exact⟨⟨0,false,MA.2⟩,fun h=>h.2.2 rfl,fun h=>h⟩
 ·rintro _ e a3 w3 ⟨rfl,hd,hold,dN⟩
  exact⟨(γ.1,fun b=>γ.2 b∨(w.heap.size≤b∧b<w3.heap.size)),hd,a3.tmps.getD 4 undef,resultsC_tmp Tryz.results60 _,rfl,
   ⟨rfl,fun _ h => .inl h,fun b hb hlt=>hold.1 b ⟨hb,hlt⟩,hold.2.1,hold.2.2⟩,⟨dN,fun b hb => .inr (dN.lt b hb)⟩⟩
end Go.Co
end
section
namespace Go.Proofs
open Go.Shelf Go.RowKit Go.Lib Go.Sort
def Tryz.Dd:Go.Shelf.Ren:=⟨fun | 6=>105 | 15=>128 | 14=>129 | 28=>143 | 29=>144 | 20=>145 | 21=>146 | 22=>147 | 23=>148 | 24=>149 | 25=>150 | 26=>151 | 27=>152 | 46=>159 | 47=>155 | 48=>156 | 49=>160 | 50=>161 | 57=>163 | n=>n,fun | 22=>34 | 24=>79 | 25=>140 | 3=>3 | 39=>87 | 0=>0 | 53=>182 | 55=>83 | 4=>4 | 46=>175 | 45=>174 | 50=>179 | 5=>5 | 9=>9 | 66=>189 | 70=>192 | 76=>196 | 77=>163 | n=>n,fun | n=>n⟩
theorem Tryz.ED:Go.Proofs.SlLaysF0.n6 Tryz.prog Tryz.Dd:={
 mixed:=by kernel_rfl
 f6:=⟨Tryz.f105.name,by decide,Tryz.func105.trans (congrArg some (by kernel_rfl))⟩
 f14:=⟨Tryz.f129.name,by decide,Tryz.func129.trans (congrArg some (by kernel_rfl))⟩
 f15:=Tryz.func128.trans (congrArg some (by kernel_rfl))
 f20:=⟨Tryz.f145.name,by decide,Tryz.func145.trans (congrArg some (by kernel_rfl))⟩
 f21:=⟨Tryz.f146.name,by decide,Tryz.func146.trans (congrArg some (by kernel_rfl))⟩
 f22:=⟨Tryz.f147.name,by decide,Tryz.func147.trans (congrArg some (by kernel_rfl))⟩
 f23:=⟨Tryz.f148.name,by decide,Tryz.func148.trans (congrArg some (by kernel_rfl))⟩
 f24:=⟨Tryz.f149.name,by decide,Tryz.func149.trans (congrArg some (by kernel_rfl))⟩
 f25:=⟨Tryz.f150.name,by decide,Tryz.func150.trans (congrArg some (by kernel_rfl))⟩
 f26:=⟨Tryz.f151.name,by decide,Tryz.func151.trans (congrArg some (by kernel_rfl))⟩
 f27:=⟨Tryz.f152.name,by decide,Tryz.func152.trans (congrArg some (by kernel_rfl))⟩
 f28:=Tryz.func143.trans (congrArg some (by kernel_rfl))
 f29:=Tryz.func144.trans (congrArg some (by kernel_rfl))
 f46:=⟨Tryz.f159.name,by decide,Tryz.func159.trans (congrArg some (by kernel_rfl))⟩
 f47:=Tryz.func155.trans (congrArg some (by kernel_rfl))
 f48:=Tryz.func156.trans (congrArg some (by kernel_rfl))
 f49:=⟨Tryz.f160.name,by decide,Tryz.func160.trans (congrArg some (by kernel_rfl))⟩
 f50:=⟨Tryz.f161.name,by decide,Tryz.func161.trans (congrArg some (by kernel_rfl))⟩
 f57:=⟨Tryz.f163.name,by decide,Tryz.func163.trans (congrArg some (by kernel_rfl))⟩
 t0:=Tryz.underlying0
 a0:=Tryz.isAgg0
 z0:=Tryz.sizeOf0
 v0:=Tryz.zeroValue0
 t3:=Tryz.underlying3
 a3:=Tryz.isAgg3
 z3:=Tryz.sizeOf3
 v3:=Tryz.zeroValue3
 t4:=Tryz.underlying4
 a4:=Tryz.isAgg4
 z4:=Tryz.sizeOf4
 v4:=Tryz.zeroValue4
 t5:=Tryz.underlying5
 a5:=Tryz.isAgg5
 z5:=Tryz.sizeOf5
 v5:=Tryz.zeroValue5
 t9:=Tryz.underlying9
 a9:=Tryz.isAgg9
 z9:=Tryz.sizeOf9
 v9:=Tryz.zeroValue9
 t22:=Tryz.underlying34
 a22:=Tryz.isAgg34
 z22:=Tryz.sizeOf34
 v22:=Tryz.zeroValue34
 t25:=Tryz.underlying140
 a25:=Tryz.isAgg140
 z25:=Tryz.sizeOf140
 v25:=Tryz.zeroValue140
 t39:=Tryz.underlying87
 a39:=Tryz.isAgg87
 z39:=Tryz.sizeOf87
 v39:=Tryz.zeroValue87
 t45:=Tryz.underlying174
 a45:=Tryz.isAgg174
 z45:=Tryz.sizeOf174
 v45:=Tryz.zeroValue174
 t46:=Tryz.underlying175
 a46:=Tryz.isAgg175
 z46:=Tryz.sizeOf175
 v46:=Tryz.zeroValue175
 t50:=Tryz.underlying179
 a50:=Tryz.isAgg179
 z50:=Tryz.sizeOf179
 v50:=Tryz.zeroValue179
 t53:=Tryz.underlying182
 a53:=Tryz.isAgg182
 z53:=Tryz.sizeOf182
 v53:=Tryz.zeroValue182
 t55:=Tryz.underlying83
 a55:=Tryz.isAgg83
 z55:=Tryz.sizeOf83
 v55:=Tryz.zeroValue83
 t66:=Tryz.underlying189
 a66:=Tryz.isAgg189
 z66:=Tryz.sizeOf189
 v66:=Tryz.zeroValue189
 t70:=Tryz.underlying192
 a70:=Tryz.isAgg192
 z70:=Tryz.sizeOf192
 v70:=Tryz.zeroValue192
 t76:=Tryz.underlying196
 a76:=Tryz.isAgg196
 z76:=Tryz.sizeOf196
 v76:=Tryz.zeroValue196
 t77:=Tryz.underlying163
 a77:=Tryz.isAgg163
 z77:=Tryz.sizeOf163
 v77:=Tryz.zeroValue163 }
def Tryz.HR:Go.Shelf.Ren:=⟨fun | 5=>108 | 7=>130 | n=>n,fun | 22=>3 | 3=>3 | 4=>4 | n=>n,fun | n=>n⟩
theorem Tryz.XM:Go.Proofs.SlLaysC2.n5 Tryz.prog Tryz.HR:={
 mixed:=by kernel_rfl
 f5:=⟨Tryz.f108.name,by decide,Tryz.func108.trans (congrArg some (by kernel_rfl))⟩
 f7:=⟨Tryz.f130.name,by decide,Tryz.func130.trans (congrArg some (by kernel_rfl))⟩
 t3:=Tryz.underlying3
 a3:=Tryz.isAgg3
 z3:=Tryz.sizeOf3
 v3:=Tryz.zeroValue3
 t4:=Tryz.underlying4
 a4:=Tryz.isAgg4
 z4:=Tryz.sizeOf4
 v4:=Tryz.zeroValue4
 t22:=Tryz.underlying3
 a22:=Tryz.isAgg3
 z22:=Tryz.sizeOf3
 v22:=Tryz.zeroValue3 }
theorem Tryz.abl (x y:Int) (w:World):Calls Tryz.prog 108 #[.int .i64 x,.int .i64 y] w fun e w'=>e = .returned (.int .i64 (Lib.compareInt x y))∧w'=w:=by
 have h:=AnyG.cmp_Compare_int Tryz.XM x y w
 exact h
def Qo (a b c:Int):Int:=if a=0 then if b=0 then c else b else a
set_option maxHeartbeats 1000000 in
theorem Tryz.abI (a b c:Int) (n:Nat) (w:World) (h0:w.cell? ⟨n,0,none⟩=some (.int .i64 a)) (h1:w.cell? ⟨n,1,none⟩=some (.int .i64 b)) (h2:w.cell? ⟨n,2,none⟩=some (.int .i64 c)) :
  Calls Tryz.prog 107 #[.slice (some ⟨n,0,none⟩) 3 3] w fun e w'=>e = .returned (.int .i64 (Qo a b c))∧w'=w:=by
 have hr:(a≠0→Qo a b c=a)∧(a=0→b≠0→Qo a b c=b)∧(a=0→b=0→Qo a b c=c):=by
  refine⟨fun h=>if_neg h,fun h h' => ?_,fun h h' => ?_⟩
  ·unfold Qo; rw[if_pos h,if_neg h']
  ·unfold Qo; rw[if_pos h,if_pos h']
 generalize Qo a b c=r at hr ⊢
 go_enter Tryz.func107,Tryz.ntmps107
 go_wp2
 go_loop [5,8] (fun _ i=>∃ k:Nat,k≤3∧i = .int .i64 k∧(1≤k→a=0)∧(2≤k→b=0)∧(3≤k→c=0)) (fun _ i=>3-(intOf i).toNat)
 case atStart=>exact⟨0,by omega,rfl,by omega,by omega,by omega⟩
 case round =>
  obtain⟨k,hk,rfl,ha,hb,hc⟩:=hrel
  have XG:k=0∨k=1∨k=2∨k=3:=by omega
  rcases XG with rfl | rfl | rfl | rfl
  ·clear ha hb hc
   by_cases hz:a=0
   ·subst hz
    go_wp2
    go_round
    case rel=>exact⟨1,by omega,by go_num,by simp,by omega,by omega⟩
    case measure=>simp[intOf]
   ·have U6:=hr.1 hz
    clear hr
    subst U6
    go_wp2
    go_ret
    exact⟨rfl,rfl⟩
  ·have ha:=ha (by omega)
   subst ha
   clear hb hc h0
   by_cases hz:b=0
   ·subst hz
    go_wp2
    go_round
    case rel=>exact⟨2,by omega,by go_num,by simp,by simp,by omega⟩
    case measure=>simp[intOf]
   ·have U6:=hr.2.1 rfl hz
    clear hr
    subst U6
    go_wp2
    go_ret
    exact⟨rfl,rfl⟩
  ·have ha:=ha (by omega)
   have hb:=hb (by omega)
   subst ha
   subst hb
   clear hc h0 h1
   by_cases hz:c=0
   ·subst hz
    go_wp2
    go_round
    case rel=>exact⟨3,by omega,by go_num,by simp,by simp,by simp⟩
    case measure=>simp[intOf]
   ·have U6:=hr.2.2 rfl rfl
    clear hr
    subst U6
    go_wp2
    go_ret
    exact⟨rfl,rfl⟩
  ·have ha:=ha (by omega)
   have hb:=hb (by omega)
   have hc:=hc (by omega)
   have U6:=hr.2.2 ha hb
   subst ha
   subst hb
   subst hc
   clear hr h0 h1 h2
   subst U6
   go_wp2
   go_ret
   exact⟨rfl,rfl⟩
def tG (x y:Int×Int×Int):Int:=Qo (Lib.compareInt x.1 y.1) (Lib.compareInt x.2.1 y.2.1) (Lib.compareInt x.2.2 y.2.2)
set_option maxRecDepth 100000 in
set_option maxHeartbeats 1000000 in
theorem Tryz.Lt (x y:Int×Int×Int) (W:World):Calls Tryz.prog 106 #[.agg #[.int .i64 x.1,.int .i64 x.2.1,.int .i64 x.2.2],.agg #[.int .i64 y.1,.int .i64 y.2.1,.int .i64 y.2.2]] W fun e w'=>e = .returned (.int .i64 (tG x y))∧∃ q os',w'=grow (W.drewN q) os':=by
 obtain⟨x1,x2,x3⟩:=x
 obtain⟨y1,y2,y3⟩:=y
 have QZ:=Tryz.abl
 unfold tG
 simp only
 have hA:=QZ x1 y1
 have hB:=QZ x2 y2
 have hC:=QZ x3 y3
 clear QZ
 generalize Lib.compareInt x1 y1=A at *
 generalize Lib.compareInt x2 y2=B at *
 generalize Lib.compareInt x3 y3=C at *
 go_enter Tryz.func106,Tryz.ntmps106
 go_wp2
 refine wp_region_still_tail 15 (by kernel_rfl) (by kernel_rfl) ?_
 simp only[List.take_succ_cons,List.take_zero,List.drop_succ_cons,List.drop_zero]
 have a1:((W.alloc (.cells #[.int .i64 x1,.int .i64 x2,.int .i64 x3] 79)).alloc (.cells #[.int .i64 y1,.int .i64 y2,.int .i64 y3] 79)).drew.cell? ⟨W.heap.size,0,none⟩=some (.int .i64 x1):=by
  refine(World.cell?_alloc_lt _ _ _ (by simp)).trans ?_
  rw[World.cell?_alloc_new]; rfl
 have a2:((W.alloc (.cells #[.int .i64 x1,.int .i64 x2,.int .i64 x3] 79)).alloc (.cells #[.int .i64 y1,.int .i64 y2,.int .i64 y3] 79)).drew.cell? ⟨W.heap.size,1,none⟩=some (.int .i64 x2):=by
  refine(World.cell?_alloc_lt _ _ _ (by simp)).trans ?_
  rw[World.cell?_alloc_new]; rfl
 have a3:((W.alloc (.cells #[.int .i64 x1,.int .i64 x2,.int .i64 x3] 79)).alloc (.cells #[.int .i64 y1,.int .i64 y2,.int .i64 y3] 79)).drew.cell? ⟨W.heap.size,2,none⟩=some (.int .i64 x3):=by
  refine(World.cell?_alloc_lt _ _ _ (by simp)).trans ?_
  rw[World.cell?_alloc_new]; rfl
 have b1:((W.alloc (.cells #[.int .i64 x1,.int .i64 x2,.int .i64 x3] 79)).alloc (.cells #[.int .i64 y1,.int .i64 y2,.int .i64 y3] 79)).drew.cell? ⟨W.heap.size+1,0,none⟩=some (.int .i64 y1):=by
  have h:=World.cell?_alloc_new (W.alloc (.cells #[.int .i64 x1,.int .i64 x2,.int .i64 x3] 79)) #[.int .i64 y1,.int .i64 y2,.int .i64 y3] 79 0
  rw[show (W.alloc (.cells #[.int .i64 x1,.int .i64 x2,.int .i64 x3] 79)).heap.size=W.heap.size+1 by simp] at h
  exact h.trans rfl
 have b2:((W.alloc (.cells #[.int .i64 x1,.int .i64 x2,.int .i64 x3] 79)).alloc (.cells #[.int .i64 y1,.int .i64 y2,.int .i64 y3] 79)).drew.cell? ⟨W.heap.size+1,1,none⟩=some (.int .i64 y2):=by
  have h:=World.cell?_alloc_new (W.alloc (.cells #[.int .i64 x1,.int .i64 x2,.int .i64 x3] 79)) #[.int .i64 y1,.int .i64 y2,.int .i64 y3] 79 1
  rw[show (W.alloc (.cells #[.int .i64 x1,.int .i64 x2,.int .i64 x3] 79)).heap.size=W.heap.size+1 by simp] at h
  exact h.trans rfl
 have b3:((W.alloc (.cells #[.int .i64 x1,.int .i64 x2,.int .i64 x3] 79)).alloc (.cells #[.int .i64 y1,.int .i64 y2,.int .i64 y3] 79)).drew.cell? ⟨W.heap.size+1,2,none⟩=some (.int .i64 y3):=by
  have h:=World.cell?_alloc_new (W.alloc (.cells #[.int .i64 x1,.int .i64 x2,.int .i64 x3] 79)) #[.int .i64 y1,.int .i64 y2,.int .i64 y3] 79 2
  rw[show (W.alloc (.cells #[.int .i64 x1,.int .i64 x2,.int .i64 x3] 79)).heap.size=W.heap.size+1 by simp] at h
  exact h.trans rfl
 have hg:((W.alloc (.cells #[.int .i64 x1,.int .i64 x2,.int .i64 x3] 79)).alloc (.cells #[.int .i64 y1,.int .i64 y2,.int .i64 y3] 79)).drew=grow (W.drewN 1) (#[.cells #[.int .i64 x1,.int .i64 x2,.int .i64 x3] 79]++#[.cells #[.int .i64 y1,.int .i64 y2,.int .i64 y3] 79]):=by
  rw[alloc_eq_grow,alloc_eq_grow,grow_grow]; rfl
 change wpStill _ _ ((W.alloc (.cells #[.int .i64 x1,.int .i64 x2,.int .i64 x3] 79)).alloc (.cells #[.int .i64 y1,.int .i64 y2,.int .i64 y3] 79)).drew (fun a'=>wpList _ _ _ _ a' ((W.alloc (.cells #[.int .i64 x1,.int .i64 x2,.int .i64 x3] 79)).alloc (.cells #[.int .i64 y1,.int .i64 y2,.int .i64 y3] 79)).drew) _ _
 generalize ((W.alloc (.cells #[.int .i64 x1,.int .i64 x2,.int .i64 x3] 79)).alloc (.cells #[.int .i64 y1,.int .i64 y2,.int .i64 y3] 79)).drew=W2 at *
 have HG:=Lib.hid hg
 clear hg
 repeat still_step
 still_call (hA _)
 repeat still_step
 still_call (hB _)
 repeat still_step
 still_call (hC _)
 repeat still_step
 refine wpStill_nil ?_
 clear a1 a2 a3 b1 b2 b3 hA hB hC
 have c0:(W2.alloc (.cells #[.int .i64 A,.int .i64 B,.int .i64 C] 3)).cell? ⟨W2.heap.size,0,none⟩=some (.int .i64 A):=by rw[World.cell?_alloc_new]; rfl
 have c1:(W2.alloc (.cells #[.int .i64 A,.int .i64 B,.int .i64 C] 3)).cell? ⟨W2.heap.size,1,none⟩=some (.int .i64 B):=by rw[World.cell?_alloc_new]; rfl
 have c2:(W2.alloc (.cells #[.int .i64 A,.int .i64 B,.int .i64 C] 3)).cell? ⟨W2.heap.size,2,none⟩=some (.int .i64 C):=by rw[World.cell?_alloc_new]; rfl
 have hor:=Tryz.abI A B C W2.heap.size _ c0 c1 c2
 clear c0 c1 c2
 go_wp2_with (go_at_call 107; refine hor.mono ?_; rintro e w' ⟨rfl,rfl⟩)
 go_ret
 have rR:∃ q os',W2.alloc (.cells #[.int .i64 A,.int .i64 B,.int .i64 C] 3)=grow (W.drewN q) os' :=
  ⟨1,(#[.cells #[.int .i64 x1,.int .i64 x2,.int .i64 x3] 79]++#[.cells #[.int .i64 y1,.int .i64 y2,.int .i64 y3] 79])++#[.cells #[.int .i64 A,.int .i64 B,.int .i64 C] 3],by rw[alloc_eq_grow,HG.out,grow_grow]⟩
 exact⟨rfl,rR⟩
end Go.Proofs
end
section
namespace Go.Co
open Go Go.Conc Go.Proofs Go.Sort Go.Shelf
def LF (x y:Sm):Prop:=x.1<y.1∨(x.1=y.1∧(x.2.1<y.2.1∨(x.2.1=y.2.1∧x.2.2<y.2.2)))
theorem vR (x y:Int):(x<y∧Lib.compareInt x y = -1)∨(x=y∧Lib.compareInt x y=0)∨(y<x∧Lib.compareInt x y=1):=by
 unfold Lib.compareInt
 by_cases h1:x<y
 ·exact .inl ⟨h1,by rw[if_pos h1]⟩
 ·by_cases h2:y<x
  ·exact .inr (.inr ⟨h2,by rw[if_neg h1,if_pos h2]⟩)
  ·exact .inr (.inl ⟨by omega,by rw[if_neg h1,if_neg h2]⟩)
theorem lt_iff (x y:Sm):ltOf tG x y=true↔LF x y:=by
 obtain⟨x1,x2,x3⟩:=x
 obtain⟨y1,y2,y3⟩:=y
 unfold ltOf tG Qo LF
 simp only[decide_eq_true_eq]
 rcases vR x1 y1 with ⟨h1,e1⟩ | ⟨h1,e1⟩ | ⟨h1,e1⟩<;>rcases vR x2 y2 with ⟨h2,e2⟩ | ⟨h2,e2⟩ | ⟨h2,e2⟩<;>rcases vR x3 y3 with ⟨h3,e3⟩ | ⟨h3,e3⟩ | ⟨h3,e3⟩<;>simp[e1,e2,e3]<;>omega
theorem y7 (x y:Sm):ltOf tG x y=false↔¬ LF x y:=by
 rw[← lt_iff]; simp
theorem aan:SWO (ltOf tG) where
 irrefl x:=by rw[y7]; unfold LF; omega
 trans x y z h1 h2:=by rw[lt_iff] at *; unfold LF at *; omega
 ntrans x y z h1 h2:=by rw[y7] at *; unfold LF at *; omega
theorem Kr {d:Array Sm} {R:List Sm} (hp:d.toList.Perm R) (hs:SortedIn (ltOf tG) 0 d.size d) (hR:R.Pairwise LF):d.toList=R:=by
 refine List.Perm.eq_of_pairwise (le:=fun x y=>¬ LF y x) (fun a b _ _ h1 h2 => ?_) ?_ (hR.imp fun {a b} h => ?_) hp
 ·obtain⟨a1,a2,a3⟩:=a
  obtain⟨b1,b2,b3⟩:=b
  unfold LF at h1 h2
  simp only at h1 h2
  have e1:a1=b1:=by omega
  have e2:a2=b2:=by omega
  have e3:a3=b3:=by omega
  rw[e1,e2,e3]
 ·rw[List.pairwise_iff_getElem]
  intro i j hi hj H8
  have h:=hs i j (Nat.zero_le _) H8 (by simpa using hj)
  rw[y7] at h
  simp only[Array.length_toList] at hi hj
  rw[getElem!_pos d i hi,getElem!_pos d j hj] at h
  simpa using h
 ·unfold LF at *; omega
def Qd (l:List Int):Prop:=l.Pairwise (· < ·)
theorem Hh (low up:List Int) (bH:Int):Qd (nK low up bH):=by
 unfold Qd nK L4
 refine List.Pairwise.filter _ ?_
 rw[List.pairwise_map]
 exact List.pairwise_lt_range.imp fun {a b} h=>by omega
theorem Kw {da db:Wk} (ha:Qd da.aQ) (hb:Qd db.aQ):(cW da db).Pairwise LF:=by
 unfold cW
 rw[List.pairwise_flatMap]
 refine⟨fun x _ => ?_,ha.imp fun {x x'} h => ?_⟩
 ·rw[List.pairwise_flatMap]
  refine⟨fun y _ => ?_,hb.imp fun {y y'} h => ?_⟩
  ·rw[List.pairwise_map]
   exact(Hh _ _ _).imp fun {s s'} h => .inr ⟨rfl,.inr ⟨rfl,h⟩⟩
  ·intro m hm m' F0
   obtain⟨s,_,rfl⟩:=List.mem_map.1 hm
   obtain⟨s',_,rfl⟩:=List.mem_map.1 F0
   exact .inr ⟨rfl,.inl h⟩
 ·intro m hm m' F0
  obtain⟨y,_,hm⟩:=List.mem_flatMap.1 hm
  obtain⟨y',_,F0⟩:=List.mem_flatMap.1 F0
  obtain⟨s,_,rfl⟩:=List.mem_map.1 hm
  obtain⟨s',_,rfl⟩:=List.mem_map.1 F0
  exact .inl h
theorem BN (d:Array Sm):(flatK nA 3 d).toList=d.toList.flatMap nA:=by
 apply List.ext_getElem?
 intro t
 have hlen:(d.toList.flatMap nA).length=d.size*3:=by rw[CM]; simp
 by_cases ht:t<d.size*3
 ·have h1:=get_flatK nA 3 d t ht
  rw[getElem!_pos _ t (by simpa using ht)] at h1
  rw[Array.getElem?_toList,Array.getElem?_eq_getElem (by simpa using ht),h1]
  have key:∀ (l:List Sm) (t:Nat),t<l.length*3→(l.flatMap nA)[t]? = some ((nA (l[t / 3]!))[t % 3]!):=by
   intro l
   induction l with
   | nil=>intro t h; simp at h
   | cons m l ih =>
    intro t h
    rw[List.flatMap_cons]
    by_cases h3:t<3
    ·have e0:t / 3=0:=by omega
     have e1:t % 3=t:=by omega
     rw[e0,e1,List.getElem?_append_left (by simpa [nA] using h3)]
     have:t=0∨t=1∨t=2:=by omega
     rcases this with rfl | rfl | rfl<;>rfl
    ·obtain⟨s,rfl⟩:∃ s,t=s+3:=⟨t-3,by omega⟩
     have e0:(s+3) / 3=s / 3+1:=by omega
     have e1:(s+3) % 3=s % 3:=by omega
     rw[e0,e1,List.getElem?_append_right (by simp[nA])]
     have:=ih s (by simp at h; omega)
     simpa [nA] using this
  rw[key d.toList t (by simpa using ht)]
  congr 3
  have hd:t / 3<d.size:=by omega
  rw[getElem!_pos d _ hd,getElem!_pos d.toList _ (by simpa using hd)]
  simp
 ·rw[List.getElem?_eq_none (by simp; omega),List.getElem?_eq_none (by omega)]
theorem HF {w:World} {g:Nat} {cur:Array Value} {e:TypeId} {d:Array Sm} (hb:w.heap[g]? = some (.cells cur e (0,0))) (ht:cur.toList.take (d.size*3)=d.toList.flatMap nA):HoldsK nA 3 w g 0 d:=by
 intro j hj
 rw[size_flatK] at hj
 refine⟨?_,by simp[World.frozen?,hb]⟩
 have h1:(cur.toList.take (d.size*3))[j]? = (flatK nA 3 d).toList[j]? := by rw[ht,BN]
 rw[List.getElem?_take_of_lt hj] at h1
 simp only[World.cell?,hb,Nat.zero_add]
 simp only[Option.isSome_none,Bool.false_eq_true,if_false]
 rw[← Array.getElem?_toList,h1,Array.getElem?_toList,Array.getElem?_eq_getElem (by simpa using hj),getElem!_pos _ j (by simpa using hj)]
 rfl
theorem Ll {w:World} {g n:Nat} {os:Array Obj} {cur:Array Value} {e:TypeId} {fr:Nat×Nat} (d:Array Sm) (hb:w.heap[g]? = some (.cells cur e fr)) :
  (sortWorldK nA 3 w g 0 n d os).heap[g]? = some (.cells (putCells id 0 (flatK nA 3 d) cur) e fr):=by
 have hg:g<w.heap.size:=(Array.getElem?_eq_some_iff.1 hb).1
 unfold sortWorldK putRowK
 rw[heap_grow_old _ _ (by simpa using hg)]
 simp[putRow,mapBlock,Sort.ahead,Array.getElem?_modify,hb,onCells]
theorem Dr {w:World} {g n:Nat} {os:Array Obj} (d:Array Sm):w.grownBy (sortWorldK nA 3 w g 0 n d os) (some g):=by
 unfold sortWorldK putRowK
 refine⟨rfl,rfl,rfl,by simp,fun k hk hne => ?_⟩
 rw[heap_grow_old _ _ (by simpa using hk)]
 have:g≠k:=fun e=>hne (by rw[e])
 simp[putRow,mapBlock,Sort.ahead,Array.getElem?_modify,this]
theorem Dj {w:World} {base g cap n:Nat} {e:TypeId} {os:Array Obj} {cur:Array Value} {d:Array Sm} (yu:base≤g) (hb:w.heap[g]? = some (.cells cur e (0,0)))
  (h1:d.size≤cap) (h2:cap≤maxLen) (h3:cur.size=cap*3) :
  (sortWorldK nA 3 w g 0 n d os).ownsRow base e 3 (.slice (some ⟨g,0,none⟩) d.size cap) d.size (d.toList.flatMap nA):=by
 refine⟨by rw[CM]; simp,.inr ⟨g,cap,_,rfl,yu,Ll d hb,h1,h2,by simp[putCells,h3],?_⟩⟩
 rw[← BN]
 apply List.ext_getElem?
 intro j
 by_cases hj:j<d.size*3
 ·rw[List.getElem?_take_of_lt hj,Array.getElem?_toList,Array.getElem?_toList]
  have hc:j<cur.size:=by omega
  simp[putCells,hj,hc]
 ·rw[List.getElem?_take_eq_none (by omega),List.getElem?_eq_none (by simp; omega)]
end Go.Co
end
section
namespace Go.Co
open Go Go.Proofs
open Go.Extern.RuntimeError
variable {P:Program}
theorem t_described (v:Value):T1 P (described v):=by
 unfold described
 (repeat' first | exact TC.out | (with_reducible refine aA ?_ (fun _ => ?_)) | (with_reducible refine gr ?_ ?_) | split | dsimp only)
theorem t_text (s:String):T1 P (text s):=aK trivial
theorem t_pkgpathOf (i:TypeInfo):T1 P (pkgpathOf i):=by
 unfold pkgpathOf
 (repeat' first | exact TC.out | (with_reducible refine aA ?_ (fun _ => ?_)) | (with_reducible refine gr ?_ ?_) | split | dsimp only)
theorem t_boundsError (args:Array Value):T1 P (boundsError args):=by
 unfold boundsError
 rcases args with ⟨_ | ⟨x,_ | ⟨y,l⟩⟩⟩
 ·exact av _
 rotate_left
 ·exact av _
 cases x<;>try exact av _
 rename_i cs
 rcases cs with ⟨_ | ⟨a,_ | ⟨b,_ | ⟨c,_ | ⟨d,_ | ⟨e,l⟩⟩⟩⟩⟩⟩<;>try exact av _
 cases a<;>try exact av _
 cases b<;>try exact av _
 cases c<;>try exact av _
 cases d<;>try exact av _
 rename_i k x k1 y signed k2 code
 show T1 P (match (if (signed&&decide (x<0))=true then boundsNegErrorFmts else boundsErrorFmts)[code.toNat]? with
  | some fmt => text ("runtime error: " ++ (fmt.replace "%x" (toString (if signed = true then x else IntKind.u64.wrap x))).replace "%y" (toString y))
  | none => stuck "boundsError: no such code")
 split
 ·exact t_text _
 ·exact av _
theorem t_nothing (args:Array Value):T1 P (nothing args):=aK trivial
theorem t_unhashable (args:Array Value):T1 P (unhashableTypeError args):=by
 unfold unhashableTypeError
 rcases args with ⟨_ | ⟨x,_ | ⟨y,l⟩⟩⟩
 ·exact av _
 rotate_left
 ·exact av _
 cases x<;>try exact av _
 rename_i cs
 rcases cs with ⟨_ | ⟨a,_ | ⟨b,l⟩⟩⟩<;>try exact av _
 refine(?_:T1 P (described a >>= _))
 refine aA (t_described a) fun o => ?_
 cases o with
 | none=>exact TC.out
 | some t=>exact t_text _
theorem t_typeAssertion (args:Array Value):T1 P (typeAssertionError args):=by
 unfold typeAssertionError
 (repeat' first | exact TC.out | exact t_text _ | exact t_described _ | exact t_pkgpathOf _ | (with_reducible refine aA ?_ (fun _ => ?_)) | (with_reducible refine gr ?_ ?_) | split | dsimp only)
theorem fd0:Extern.find Tryz.f0=none:=by kernel_rfl
theorem fd1:Extern.find Tryz.f1=none:=by kernel_rfl
theorem abj:Extern.find Tryz.f164=some boundsError:=by kernel_rfl
theorem abi:Extern.find Tryz.f165=some nothing:=by kernel_rfl
theorem abh : Extern.find Tryz.f166 = some (fun args => do pure (.string ("runtime error: ".toUTF8 ++ (← asString (args.getD 0 (.tuple #[])))))) := by kernel_rfl
theorem abg:Extern.find Tryz.f167=some nothing:=by kernel_rfl
theorem abf:Extern.find Tryz.f168=some (fun args=>do pure (.string (← asString (args.getD 0 (.tuple #[]))))):=by kernel_rfl
theorem abe:Extern.find Tryz.f169=some nothing:=by kernel_rfl
theorem abd : Extern.find Tryz.f170 = some (fun args => do pure (.string ("runtime error: ".toUTF8 ++ (← asString ((← asAgg (args.getD 0 (.tuple #[]))).getD 0 (.tuple #[])))))) := by kernel_rfl
theorem abc:Extern.find Tryz.f171=some nothing:=by kernel_rfl
theorem abb:Extern.find Tryz.f172=some typeAssertionError:=by kernel_rfl
theorem aba:Extern.find Tryz.f173=some nothing:=by kernel_rfl
theorem aa9 : Extern.find Tryz.f174 = some (fun _ => text "runtime error: panic called with nil argument") := by kernel_rfl
theorem aa8:Extern.find Tryz.f175=some nothing:=by kernel_rfl
theorem aa7:Extern.find Tryz.f176=none:=by kernel_rfl
theorem aa6:Extern.find Tryz.f177=some unhashableTypeError:=by kernel_rfl
theorem aa5:Extern.find Tryz.f178=some nothing:=by kernel_rfl
theorem aa4:Extern.find Tryz.f179=none:=by kernel_rfl
theorem aa3:Extern.find Tryz.f180=some (fun args=>do pure (strVal (Extern.Rtype.kindName (← asInt (args.getD 0 (.tuple #[]))).toNat))):=by kernel_rfl
theorem XS:(Tryz.prog.funcs.toList.zipIdx.all fun(f,i) => !f.body.isNone||i==0||i==1||(decide (164≤i)&&decide (i≤180)))=true:=by kernel_rfl
theorem aao:Tryz.prog.funcs.size=181:=by kernel_rfl
theorem aaF:(Tryz.prog.funcs.toList.all fun f => !f.body.isNone||(Extern.findNext f).isNone)=true:=by kernel_rfl
theorem names : (Tryz.prog.funcs.toList.all fun f => !(f.name == "runtime.NumGoroutine")) = true := by kernel_rfl
theorem aaH:(Tryz.prog.funcs.toList.all fun f => !f.norace)=true:=by kernel_rfl
theorem vJ {f:FuncId} {fn:Func} (h:Tryz.prog.funcs[f]? = some fn):fn∈Tryz.prog.funcs.toList:=by
 obtain⟨hlt,rfl⟩:=Array.getElem?_eq_some_iff.1 h
 exact Array.getElem_mem_toList hlt
theorem Xj (f:Nat) (h:f=0∨f=1∨(164≤f∧f≤180)):f=0∨f=1∨f=164∨f=165∨f=166∨f=167∨f=168∨f=169∨f=170∨f=171∨f=172∨f=173∨f=174∨f=175∨f=176∨f=177∨f=178∨f=179∨f=180:=by omega
theorem eX:Plain Tryz.prog where
 count f fn h:=by
  have:=List.all_eq_true.1 names fn (vJ h)
  simpa using this
 quiet f:=by
  cases h:Tryz.prog.funcs[f]? with
  | none=>rfl
  | some fn =>
   have:=List.all_eq_true.1 aaH fn (vJ h)
   simpa using this
 next f fn h hb:=by
  have:=List.all_eq_true.1 aaF fn (vJ h)
  simpa [hb] using this
 find f fn e h hb he args:=by
  have hlt:f<181:=by rw[← aao]; exact(Array.getElem?_eq_some_iff.1 h).1
  have hz:(fn,f)∈Tryz.prog.funcs.toList.zipIdx:=by
   rw[List.mem_zipIdx_iff_getElem?]
   simpa using h
  have h1:=List.all_eq_true.1 XS _ hz
  have h2:f=0∨f=1∨(164≤f∧f≤180):=by
   simp only[hb,Bool.not_true,Bool.false_or,Bool.or_eq_true,Bool.and_eq_true,beq_iff_eq,decide_eq_true_eq] at h1
   rcases h1 with (h1 | h1) | h1
   ·exact .inl h1
   ·exact .inr (.inl h1)
   ·exact .inr (.inr h1)
  have pick:∀ {i:Nat} {g:Func},f=i→Tryz.prog.funcs[i]? = some g→fn=g:=fun hi hg=>by subst hi; rw[hg] at h; exact(Option.some.inj h).symm
  have XO:f=0∨f=1∨f=164∨f=165∨f=166∨f=167∨f=168∨f=169∨f=170∨f=171∨f=172∨f=173∨f=174∨f=175∨f=176∨f=177∨f=178∨f=179∨f=180:=Xj f h2
  rcases XO with hi | hi | hi | hi | hi | hi | hi | hi | hi | hi | hi | hi | hi | hi | hi | hi | hi | hi | hi
  ·rw[pick hi Tryz.func0] at he
   rw[fd0] at he; cases he
  ·rw[pick hi Tryz.func1] at he
   rw[fd1] at he; cases he
  ·rw[pick hi Tryz.func164] at he
   rw[abj] at he; cases he; exact t_boundsError _
  ·rw[pick hi Tryz.func165] at he
   rw[abi] at he; cases he; exact t_nothing _
  ·rw[pick hi Tryz.func166] at he
   rw[abh] at he; cases he
   (repeat' first | exact TC.out | (with_reducible refine aA ?_ (fun _ => ?_)) | (with_reducible refine gr ?_ ?_) | split | dsimp only)
  ·rw[pick hi Tryz.func167] at he
   rw[abg] at he; cases he; exact t_nothing _
  ·rw[pick hi Tryz.func168] at he
   rw[abf] at he; cases he
   (repeat' first | exact TC.out | (with_reducible refine aA ?_ (fun _ => ?_)) | (with_reducible refine gr ?_ ?_) | split | dsimp only)
  ·rw[pick hi Tryz.func169] at he
   rw[abe] at he; cases he; exact t_nothing _
  ·rw[pick hi Tryz.func170] at he
   rw[abd] at he; cases he
   (repeat' first | exact TC.out | (with_reducible refine aA ?_ (fun _ => ?_)) | (with_reducible refine gr ?_ ?_) | split | dsimp only)
  ·rw[pick hi Tryz.func171] at he
   rw[abc] at he; cases he; exact t_nothing _
  ·rw[pick hi Tryz.func172] at he
   rw[abb] at he; cases he; exact t_typeAssertion _
  ·rw[pick hi Tryz.func173] at he
   rw[aba] at he; cases he; exact t_nothing _
  ·rw[pick hi Tryz.func174] at he
   rw[aa9] at he; cases he; exact t_text _
  ·rw[pick hi Tryz.func175] at he
   rw[aa8] at he; cases he; exact t_nothing _
  ·rw[pick hi Tryz.func176] at he
   rw[aa7] at he; cases he
  ·rw[pick hi Tryz.func177] at he
   rw[aa6] at he; cases he; exact t_unhashable _
  ·rw[pick hi Tryz.func178] at he
   rw[aa5] at he; cases he; exact t_nothing _
  ·rw[pick hi Tryz.func179] at he
   rw[aa4] at he; cases he
  ·rw[pick hi Tryz.func180] at he
   rw[aa3] at he; cases he
   (repeat' first | exact TC.out | (with_reducible refine aA ?_ (fun _ => ?_)) | (with_reducible refine gr ?_ ?_) | split | dsimp only)
end Go.Co
end
section
namespace Go.Proofs
open Go.Shelf Go.RowKit Go.Lib Go.Sort
set_option maxHeartbeats 400000 in
theorem Tryz.HE (v:Value) (w:World):Calls Tryz.prog 145 #[.slice none 0 0,.int .i64 0,.int .i64 0,v] w fun e w'=>e = .returned (.tuple #[])∧w'=w:=by
 go_enter Tryz.func145,Tryz.ntmps145
 go_wp2
 go_loop [8] (fun i=>i = .int .i64 1) (fun _=>0)
 case atStart=>rfl
 case round =>
  subst hrel
  go_wp2
  go_end0
  exact⟨rfl,rfl⟩
set_option maxRecDepth 100000 in
set_option maxHeartbeats 1000000 in
theorem Tryz.Hu (l:Int) (v:Value) (w:World):Calls Tryz.prog 129 #[.slice none 0 0,.int .i64 0,.int .i64 0,.int .i64 l,v] w fun e w'=>e = .returned (.tuple #[])∧w'=w:=by
 have hi:=Tryz.HE v
 go_enter Tryz.func129,Tryz.ntmps129
 go_wp2
 go_loop [1,2] (fun a b=>a = .int .i64 0∧b = .int .i64 0) (fun _ _=>0)
 case atStart=>exact⟨rfl,rfl⟩
 case round =>
  obtain⟨rfl,rfl⟩:=hrel
  go_wp2_with (go_at_call 145; refine(hi _).mono ?_; rintro e w' ⟨rfl,rfl⟩)
  exact⟨rfl,.tuple #[],results_none (by rfl) _ _ _,rfl,rfl⟩
theorem Tryz.Pe (w:World):Calls Tryz.prog 128 #[.int .u64 0] w fun e w'=>e = .returned (.int .i64 (Lib.bitLen 0:Nat))∧w'=w:=by
 have h:=Any.bits_Len (SlLaysF0.n15.bits (P:=Tryz.prog) { Tryz.ED with }) (0:Int) w (by omega) (by omega)
 exact h
set_option maxHeartbeats 1000000 in
theorem Tryz.He (v:Value) (w:World):Calls Tryz.prog 105 #[.slice none 0 0,v] w fun e w'=>e = .returned (.tuple #[])∧w'=w:=by
 have hl:=Tryz.Pe
 have hp:=fun l=>Tryz.Hu l v
 go_enter Tryz.func105,Tryz.ntmps105
 go_wp2_with (first | (go_at_call 128; refine(hl _).mono ?_; rintro e w' ⟨rfl,rfl⟩) | (go_at_call 129; refine(hp _ _).mono ?_; rintro e w' ⟨rfl,rfl⟩))
 go_end0
 exact⟨rfl,rfl⟩
end Go.Proofs
end
section
namespace Go.Proofs
open Go.Shelf Go.RowKit Go.Lib Go.Sort Go.Co
theorem Tryz.W0 (g cap:Nat) (d:Array Sm) (w:World) (hH:HoldsK nA 3 w g 0 d) (hg:g<w.heap.size) (hsz:d.size<4611686018427387904) :
  Calls Tryz.prog 105 #[.slice (some ⟨g,0,none⟩) d.size cap,.func (.func 106) #[] #[]] w fun e w'=>e = .returned (.tuple #[])∧∃ d' n os,PermIn 0 d.size d d'∧SortedIn (ltOf tG) 0 d.size d'∧w'=sortWorldK nA 3 w g 0 n d' os:=by
 have eg:∀ args w,(callFunc 106 args).run Tryz.prog w = .ok (.enter 106 args) w:=enters_of Tryz.func106 (by kernel_rfl) rfl
 exact AnyQ.slices_SortFunc Tryz.ED 3 Tryz.isAgg79 Tryz.sizeOf79 nA (fun _=>rfl) (fun x v hv=>by simp[nA] at hv; rcases hv with rfl | rfl | rfl<;>rfl) tG aan 106 #[] g 0 cap d w eg (fun _ _ _ _ x y=>Tryz.Lt x y _) hH hg hsz
end Go.Proofs
namespace Go.Co
open Go Go.Conc Go.Proofs Go.Sort Go.Shelf
variable {P:Program} {af:Machine→Trace→Prop} {γ:So} {w:World}
theorem y9 {Γ:Type} {main:Bool} {K:Γ→Goroutine→World→Prop} {Rl:Γ→World→World→Prop} {St:Γ→World→Γ→World→Array Event→Prop} {fn:FuncId} {Q:Γ→Exit→Act→World→Prop} {a:Act} {ops:Array Oper} {i:Nat} {rest:List Nat} {o:Oper} (C:KC P main K Rl St) {γ:Γ} {v:Value} (ho:ops[i]? = some o) (hw:Region.wanted o (yielded ops a.tmps)=true) (hrun:∀ w,(execOp a.eval o).run P w = .ok (.value v) w) (qa:∀ w,(execOp a.eval o).events P w #[]=#[])
  (h:KO K fn γ ops rest Q (a.put o.dst v) w):KO K fn γ ops (i::rest) Q a w :=
 tW C ho hw fun w₁ r=>by rw[hrun w₁]; exact⟨γ,by rw[listed_nil (qa w₁)]; exact C.idle _ _,C1 C r h⟩
def vT (A:Nat→Prop) (B0:Nat) (w0:World) (R:List Sm) (out:Value) (w:World):Prop:=Old A B0 w0 w∧w.ownsRow B0 79 3 out R.length (R.flatMap nA)
theorem yP {A:Nat→Prop} {B0:Nat} {w0:World} {R got:List Sm} {out:Value} (hR:R.Pairwise LF) (hlen:R.length≤4294967296) (hA:∀ b,A b→b<B0) (hO:Old A B0 w0 w) (hp:got.Perm R) (rP:w.ownsRow B0 79 3 out got.length (got.flatMap nA)) :
  Calls Tryz.prog 105 #[out,.func (.func 106) #[] #[]] w fun e w'=>∃ v,e = .returned v∧vT A B0 w0 R out w':=by
 have hl:=hp.length_eq
 rcases rP.2 with ⟨rfl,h0⟩ | ⟨g,cap,cur,rfl,hb,hg,hn,hc,lR,ht⟩
 ·have acd:got=[]:=List.eq_nil_of_length_eq_zero h0
  have hRn:R=[]:=List.eq_nil_of_length_eq_zero (by omega)
  subst acd
  subst hRn
  exact(Tryz.He _ w).mono fun e w' ⟨he,hw⟩=>⟨_,he,by subst hw; exact⟨hO,rP⟩⟩
 ·have hlt:g<w.heap.size:=(Array.getElem?_eq_some_iff.1 hg).1
  have hH:HoldsK nA 3 w g 0 got.toArray:=HF hg (by simpa using ht)
  have h:=Tryz.W0 g cap got.toArray w hH hlt (by simp; omega)
  simp only[List.size_toArray] at h
  refine h.mono ?_
  rintro e w' ⟨he,d',n,os,hpm,hs,rfl⟩
  obtain⟨hsz,-,hpm⟩:=hpm
  have hsz':d'.size=got.length:=by simpa using hsz
  have hd:d'.toList=R:=by
   refine Kr ?_ (by rw[hsz']; exact hs) hR
   have h1:(d'.extract 0 got.length)=d':=by rw[← hsz']; simp
   have h2:(got.toArray.extract 0 got.length)=got.toArray:=by simp
   rw[h1,h2] at hpm
   exact hpm.trans hp
  have Vh:=Dr (w:=w) (g:=g) (n:=n) (os:=os) d'
  refine⟨_,he,⟨fun b kL => ?_,Nat.le_trans hO.2.1 Vh.size,Vh.os.trans hO.2.2.1,Vh.output.trans hO.2.2.2⟩,?_⟩
  ·have:=hA b kL
   exact(Vh.block b (Nat.lt_of_lt_of_le this hO.2.1) (fun e=>by cases e; omega)).trans (hO.1 b kL)
  ·have:=Dj (n:=n) (os:=os) (d:=d') hb hg (by omega) hc lR
   rw[hsz',hd] at this
   rw[← hl]
   exact this
set_option maxRecDepth 100000 in
theorem RI {da db:Wk} (oF:da.ok) (vY:db.ok) (Y8:Qd da.aQ) (mm:Qd db.aQ):N3 af (cW da db):=by
 intro A B0 w0 γ' a' w' hE
 obtain⟨-,-,hS,got,out,hp,rP,u,rfl⟩:=hE
 have C:=tY (af:=af) eX
 unfold Ni
 show KJ _ _ _ (.seq (.region _ _ false) (.seq (.region _ _ false) .ret)) _ _ _
 refine aM C (vM C ?_)
 simp only[List.size_toArray,List.length_cons,List.length_nil,Nat.reduceAdd,Nat.zero_add,List.range,List.range.loop]
 refine y9 C (v := ?v1) rfl (by rfl) (fun w=>run_eq_of fun K hK => ?r1) (fun w => ?e1) ?h1
 case r1=>go_simp; exact hK
 case e1=>simp[go_sem]
 try walk_nrm
 refine Sl eX (R:=fun _ w=>vT A B0 w0 (cW da db) out w) rfl (by rfl) rfl Tryz.func105 rfl (fun τ => ?_) (fun v w2 hR τ d => ?_)
 ·simp only[List.map_toArray,List.map_cons,List.map_nil]
  have hO:Old A B0 w0 (w'.re τ 0):=⟨hS.blk,hS.size,hS.env.1,hS.env.2⟩
  exact yP (Kw Y8 mm) (zC oF vY) hS.lt hO hp rP
 ·have jX:vT A B0 w0 (cW da db) out (w2.re τ d):=hR
  generalize w2.re τ d=w3 at *
  try walk_nrm
  refine aG C ?_
  co_then
  refine aM C (vM C ?_)
  simp only[List.size_toArray,List.length_cons,List.length_nil,Nat.reduceAdd,Nat.zero_add,List.range,List.range.loop]
  refine y9 C (v := ?v2) rfl (by rfl) (fun w=>run_eq_of fun K hK => ?r2) (fun w => ?e2) ?h2
  case r2=>go_simp; exact hK
  case e2=>simp[go_sem]
  try walk_nrm
  refine y9 C (v := ?v3) rfl (by rfl) (fun w=>run_eq_of fun K hK => ?r3) (fun w => ?e3) ?h3
  case r3=>go_simp; exact hK
  case e3=>simp[go_sem]
  try walk_nrm
  refine aG C ?_
  co_then
  refine yD C ?_
  exact⟨rfl,rfl,jX.1,jX.2⟩
theorem RR {ca cb:Array Value} {da db:Wk} (oF:da.ok) (vY:db.ok) (Y8:Qd da.aQ) (mm:Qd db.aQ) (YN:rz γ w ca da) (YM:rz γ w cb db) :
  tM (Ka Tryz.prog af) Tryz.prog (.bad,γ) 60 #[.agg ca,.agg cb] w fun γ' v w'=>γ'.1 = .bad∧Kept γ w γ'.2 w'∧iQ γ'.2 w' w.heap.size 79 3 v (cW da db).length ((cW da db).flatMap nA) :=
 FD eX oF vY YN YM (RI oF vY Y8 mm)
end Go.Co
end
