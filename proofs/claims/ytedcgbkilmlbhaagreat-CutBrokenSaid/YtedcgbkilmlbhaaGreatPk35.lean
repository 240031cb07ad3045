import Derived.Test.YtedcgbkilmlbhaaGreatPk34
import Derived.Test.YtedcgbkilmlbhaaGreatPk05
import Derived.Test.YtedcgbkilmlbhaaGreatRows
import Derived.Conc.LeavingOf
import Derived.ProofKit
import Derived.Shelf.Sort.Plain
import Derived.Sort.OwnSortedInts
import Derived.Test.YtedcgbkilmlbhaaGreatPk33
import Derived.Test.YtedcgbkilmlbhaaGreatPk12
section
namespace Go.Tv
open Go Go.Di Go.Conc Go.Co Go.Proofs
theorem Cw:oF iI where
 other:=fun f a h1 h2 h3 h4=>by
  have:mz f a=none:=by
   unfold mz
   split
   ·exact absurd rfl h1
   ·exact absurd rfl h2
   ·exact absurd rfl h4
   ·rfl
  simp[iI,more,Ne.symm h3,this]
 fit:=by simp[iI,more,DV.DF,bb]
def rowsOf (fO:List Int):List DV:=fO.map fun n => .val (.int .i64 n)
theorem fF:∀ fO:List Int,dK (CR bX) bX.agg fO (rowsOf fO)
 | []=>trivial
 | n::l=>⟨⟨rfl,fun l h=>by cases h⟩,fF l⟩
theorem lV:∀ fO:List Int,flat (rowsOf fO)=rowsOf fO
 | []=>rfl
 | n::l=>by
  have:=lV l
  simp only[flat,rowsOf,List.map_cons,List.flatMap_cons] at this ⊢
  rw[this]
  rfl
def B5 (W:World) (b o n:Nat):Cx:={ w:=W,μ:=fun _=>0,κ:=fun _=>0,Fz:=fun b' j=>b'=b∧o≤j∧j<o+n,S:=[] }
theorem Od {W:World} {b o n:Nat} (h:∀ j,j<n→∃ v,W.cell? ⟨b,o+j,none⟩=some v):Rel (B5 W b o n) where
 cells:=fun id l hl=>by simp[B5] at hl
 cN:=fun id e s n hl=>by simp[B5] at hl
 c9:=fun id b hl=>by simp[B5] at hl
 inj:=fun i j hi=>absurd hi (ew i)
 uI:=fun b' j ⟨h1,h2,h3⟩=>by
  subst h1
  obtain⟨v,hv⟩:=h (j-o) (by omega)
  exact⟨v,by rw[← hv]; congr 2; omega⟩
 sep:=fun id ⟨l,hl⟩=>by simp[B5] at hl
 lF:=fun id e s n hl=>by simp[B5] at hl
 ops:=fun id e s l z hl=>by simp[B5] at hl
theorem N7 {W:World} {b o cap:Nat} {a0:Option Addr} {fO:List Int} (hb:fO≠[]→a0=some ⟨b,o,none⟩) (hs:∀ ad,a0=some ad→ad.spot=none) (hn:a0=none→cap=0) (hc:fO.length≤cap)
  (h:∀ j,j<fO.length→W.cell? ⟨b,o+j,none⟩=some (.int .i64 (fO.getD j 0))) :
  RV (B5 W b o fO.length) (.sl (rowsOf fO) none ⟨false,none⟩) (.slice a0 fO.length cap):=by
 have hl:(rowsOf fO).length=fO.length:=by simp[rowsOf]
 have aQ:∀ j c,(flat (rowsOf fO))[j]? = some c→j<fO.length∧c = .val (.int .i64 (fO.getD j 0)):=by
  intro j c hj
  rw[lV] at hj
  simp only[rowsOf,List.getElem?_map,Option.map_eq_some_iff] at hj
  obtain⟨n,hn,rfl⟩:=hj
  have hlt:=(List.getElem?_eq_some_iff.1 hn).1
  exact⟨hlt,by rw[List.getD_eq_getElem?_getD,hn]; rfl⟩
 rw[← hl]
 refine .sl (s:=1) (vs:=fun j => .int .i64 (fO.getD j 0)) ⟨fun r hr => ?_,fun j c hj => ?_⟩ (fun j c hj => ?_) (by rw[hl]; exact hc) ⟨fun h=>(nomatch h),fun b h=>(nomatch h)⟩ hn hs (fun t h=>(nomatch h))
 ·simp only[rowsOf,List.mem_map] at hr
  obtain⟨n,-,rfl⟩:=hr
  rfl
 ·obtain⟨h1,rfl⟩:=aQ j c hj
  refine⟨rfl,b,o,hb (fun e=>by subst e; simp at h1),⟨rfl,by omega,by rw[hl] at *; omega⟩,h j h1⟩
 ·obtain⟨h1,rfl⟩:=aQ j c hj
  exact .val rfl
theorem OP {aZ:bn} (Vt:∀ af,oe Tryz.prog af aZ) (tkt:oF aZ) {f:FuncId} {n:Nat} (hf:f≠60∧f≠133∧f≠12∧f≠43∧f≠52) (hi:Tryz.prog.inits.idxOf? f=none) {fO:List Int} (hs:oM (rE aZ (n+1)) f [.sl bX fO .no] (fun v=>v=nu true))
  {W:World} {b o cap:Nat} {a0:Option Addr} (hb:fO≠[]→a0=some ⟨b,o,none⟩) (hsp:∀ ad,a0=some ad→ad.spot=none) (hn:a0=none→cap=0) (hc:fO.length≤cap)
  (h:∀ j,j<fO.length→W.cell? ⟨b,o+j,none⟩=some (.int .i64 (fO.getD j 0))) :
  ∃ N last o w' t',runNT Tryz.prog (N+1) (solo (G (Frame.enter Tryz.prog f #[.slice a0 fO.length cap] .normal) []) W) #[]=(.ended o w',t')∧runN Tryz.prog N (solo (G (Frame.enter Tryz.prog f #[.slice a0 fO.length cap] .normal) []) W) = .next last ∧
   step Tryz.prog last = .ended o w'∧Conc.Good Tryz.prog (fun v w=>v = .bool true∧oJ W w) last o w' t':=by
 obtain⟨d,v,h1,h2,h3,h4,rfl⟩:=hs [.sl (rowsOf fO) none ⟨false,none⟩] ⟨⟨fF fO,trivial⟩,trivial⟩
 have hd:d = .val (.bool true):=by
  cases d<;>simp[RT] at h3
  rw[h3]
 subst hd
 refine G9 ?_ ?_
 ·exact⟨jk _ _ _ _,fun f hf=>(nomatch hf),fun h=>h.elim,fun d h=>(nomatch h)⟩
 ·refine NI (x:=B5 W b o fO.length) eS qn xV Vt (tkt.other f _ hf.1 hf.2.1 hf.2.2.1 hf.2.2.2.1 hf.2.2.2.2) hi h1 (Od fun j hj=>⟨_,h j hj⟩) rfl ⟨rfl,fun j c hj => ?_⟩
  cases j with
  | zero =>
   cases hj
   exact N7 hb hsp hn hc h
  | succ j=>simp at hj
end Go.Tv
end
section
namespace Go.Tv
open Go Go.Di Go.Conc Go.Co Go.Proofs
open Go.ChangeShapes Go.WideShapes Go.ChangeAt Go.RowKit
theorem Tryz.own:ownKnob Tryz.prog.godebug=none:=by kernel_rfl
theorem Tryz.laidOut:laidOutB Tryz.prog=true:=by kernel_rfl
theorem Tryz.Xu:Tryz.prog.cellsOf 3=1:=by kernel_rfl
theorem Tryz.Ct:Tryz.prog.underlying 23=some (.slice 3):=by kernel_rfl
theorem Tryz.Wv:Tryz.prog.underlying 3=some (.int .i64):=by kernel_rfl
theorem Tryz.Wu:Tryz.prog.underlying 4=some .bool:=by kernel_rfl
theorem Fe {W w':World} (h:oJ W w') (may:MemPlace→Prop):W.keptBut w' may:=by
 refine⟨h.os,h.output,fun i hi => ?_⟩
 rw[h.block i hi]
 split<;>simp_all
theorem GJ {W w':World} (h:oJ W w') {p:MemPlace} (hp:p.block<W.heap.size):W.sameAt w' p:=by
 cases p with
 | cell b o=>exact World.cell?_of_block (w:=W) (h.block b hp)
 | map b=>exact h.block b hp
set_option maxRecDepth 100000 in
theorem RX {aZ:bn} (Vt:∀ af,oe Tryz.prog af aZ) (tkt:oF aZ) {f:FuncId} {fn:Func} (HK:Tryz.prog.funcs[f]? = some fn) (Zy:fn.params=#[23]) (LX:fn.resultTypes=#[4]) {s:ChangeSpec} (TX:s.vars=[])
  (aas:∀ (H:Type) (d:DataW H),s.fn H [d]={ results:=[.lit (.bool true)],args:=[d] }) {conds:List PathCond} {fresh handsOn:Bool}
  (hf:f≠60∧f≠133∧f≠12∧f≠43∧f≠52) (hi:Tryz.prog.inits.idxOf? f=none) {n:Nat} (hs:∀ fO,oM (rE aZ (n+1)) f [.sl bX fO .no] (fun v=>v=nu true))
  {os:Os} (started:os.Started) {H:Type} {enc:TypeId×Value→H}
  (witness:∃ (w:World) (tape:Tape) (i:Input),w.os=os∧(w.forCall tape i).Shaped Tryz.checked.prog∧i.vars=[]∧Input.okWide Tryz.checked.prog (w.forCall tape i) .any w.heap.size f i ∧
   s.pre6 enc Tryz.checked.prog fn conds false (w.forCall tape i).memory i.args∧({}:Assume).holds Tryz.checked.prog (lone (Frame.enter Tryz.checked.prog f i.args .normal) [] (w.forCall tape i))) :
  ReturnsInLeavingWide {} Tryz.checked os f .any (s.pre6 enc Tryz.prog fn conds false) (s.post enc Tryz.prog fn false fresh handsOn false):=by
 refine returnsInLeavingWide_of_change_sized (C:=Tryz.checked) Tryz.own started HK witness ?_
 intro W base args ds gs before TY hW _ _ _
 have Vs:∀ (j:Nat) t v,fn.params[j]? = some t→args[j]? = some v→Value.okWide Tryz.prog W .any base t v:=TY
 have hW':=hW
 obtain⟨p,q,hA0,hV,rfl,_,_⟩:=hW
 have hA:DataW.TrodAll enc Tryz.prog W 0 (fun _=>true) true fn.params.toList args.toList ds p:=hA0
 rw[Zy] at hA Vs
 obtain⟨v0,d0,rfl,rfl,h0⟩:=trodAll_one hA
 rw[TX] at hV
 obtain⟨rfl,rfl⟩:=trodVars_none hV
 obtain⟨a0,len,cap,rfl⟩:=okWide_slice Tryz.Ct (Vs 0 23 v0 rfl rfl)
 have gZ:=Vs 0 23 _ rfl rfl
 have TZ:∀ ad,a0=some ad→ad.spot=none:=by
  intro ad e
  subst e
  simp only[Value.okWide,Tryz.Ct,Cell.okWide,Cell.ok,World.has] at gZ
  exact gZ.2.2.2.1
 have h0k:=h0
 obtain⟨fuel,hfu⟩:=h0
 clear hA0 TY
 simp only[List.append_nil] at hW'
 have hlt:∀ x∈p,x.block<W.heap.size:=fun x hx=>by simpa using hW'.lt x hx
 have ig:∀ (W':World),oJ W W'→DataW.Trod enc Tryz.prog W' 0 (fun b=>decide (b<W.heap.size)) true 23 (.slice a0 len cap) d0 p :=
  fun W' hn=>WideElems.Trod_stays Tryz.laidOut (by kernel_rfl) (of_decide_eq_true (by kernel_rfl)) h0k (fun x hx=>GJ hn (hlt x hx)) fun x hx=>by simpa using hlt x hx
 have close:∀ (zs:List Int) (b o:Nat),zs.length=len→len≤cap→(a0=none→cap=0)→(zs≠[]→a0=some ⟨b,o,none⟩) →
   (∀ j,j<zs.length→W.cell? ⟨b,o+j,none⟩=some (.int .i64 (zs.getD j 0))) →
   ∃ M last o w' t',runNT Tryz.checked.prog (M+1) (solo (G (Frame.enter Tryz.checked.prog f #[.slice a0 len cap] .normal) []) W) #[]=(.ended o w',t') ∧
    runN Tryz.checked.prog M (solo (G (Frame.enter Tryz.checked.prog f #[.slice a0 len cap] .normal) []) W) = .next last∧step Tryz.checked.prog last = .ended o w' ∧
    Conc.Good Tryz.checked.prog (fun v W'=>s.post enc Tryz.checked.prog fn false fresh handsOn false W #[.slice a0 len cap] v W') last o w' t':=by
  intro zs b o hz hc hn hb hel
  subst hz
  obtain⟨M,last,o,w',t',h1,h2,h3,h4⟩:=OP Vt tkt hf hi (hs zs) hb TZ hn hc hel
  refine⟨M,last,o,w',t',h1,h2,h3,h4.mono fun v hF => ?_⟩
  obtain⟨rfl,hst⟩:=hF
  have es:s.fn H ([d0]++[])={ results:=[.lit (.bool true)],args:=[d0] }:=aas H d0
  refine⟨_,_,_,[],p,[],hW',?_,?_,by rw[es,TX]; rfl,Fe hst _,fun h=>by cases h⟩
  ·rw[es,LX]; exact trodAll_mk1 (shut_bool Tryz.Wu _)
  ·rw[es,Zy]; exact trodAll_mk1 (ig _ hst)
 rcases open_ints Tryz.Ct Tryz.Wv Tryz.Xu hfu with ⟨jW,hx⟩ | ⟨a,len',cap',zs,jW,_,hl,hm,hz,hx,oc,hwz⟩
 ·simp[Value.cells] at jW
  obtain⟨rfl,rfl,rfl⟩:=jW
  exact close [] 0 0 rfl (Nat.le_refl _) (fun _=>rfl) (fun h=>absurd rfl h) (fun j hj=>absurd hj (by simp))
 ·simp[Value.cells] at jW
  obtain⟨rfl,rfl,rfl⟩:=jW
  simp only[if_true] at hz
  have hsp:=TZ a rfl
  obtain⟨b,o,sp⟩:=a
  simp only at hsp
  subst hsp
  have hlen:(zs.take len).length=len:=by simp; omega
  refine close (zs.take len) b o hlen hl (fun h=>by cases h) (fun _=>rfl) fun j hj => ?_
  rw[hlen] at hj
  have h1:=oc j (by omega)
  have h2:(⟨b,o,none⟩:Addr).add j=⟨b,o+j,none⟩:=by
   unfold Addr.add
   split
   ·rename_i e; subst e; rfl
   ·rfl
  rw[h2] at h1
  rw[h1]
  simp[List.getD_eq_getElem?_getD,hj]
end Go.Tv
end
section
namespace Go.Proofs
open Go.Shelf Go.Sort
def Tryz.Ff:Go.Shelf.Ren:=⟨fun | 189=>99 | 125=>128 | 257=>127 | 128=>143 | 129=>144 | 294=>134 | 295=>135 | 296=>136 | 297=>137 | 298=>138 | 299=>139 | 216=>140 | 300=>141 | 301=>142 | 328=>154 | 329=>155 | 330=>156 | 331=>157 | 332=>158 | 215=>130 | 343=>162 | n=>n,fun | 28=>23 | 3=>3 | 46=>87 | 0=>0 | 51=>182 | 53=>83 | 4=>4 | 183=>175 | 182=>174 | 131=>179 | 5=>5 | 9=>9 | 218=>189 | 222=>192 | 228=>196 | 229=>163 | n=>n,fun | n=>n⟩
theorem Tryz.sortInt:Go.Proofs.Lays.n189 Tryz.prog Tryz.Ff:={
 mixed:=by kernel_rfl
 f125:=Tryz.func128.trans (congrArg some (by kernel_rfl))
 f128:=Tryz.func143.trans (congrArg some (by kernel_rfl))
 f129:=Tryz.func144.trans (congrArg some (by kernel_rfl))
 f189:=Tryz.func99.trans (congrArg some (by kernel_rfl))
 f215:=Tryz.func130.trans (congrArg some (by kernel_rfl))
 f216:=Tryz.func140.trans (congrArg some (by kernel_rfl))
 f257:=Tryz.func127.trans (congrArg some (by kernel_rfl))
 f294:=Tryz.func134.trans (congrArg some (by kernel_rfl))
 f295:=Tryz.func135.trans (congrArg some (by kernel_rfl))
 f296:=Tryz.func136.trans (congrArg some (by kernel_rfl))
 f297:=Tryz.func137.trans (congrArg some (by kernel_rfl))
 f298:=Tryz.func138.trans (congrArg some (by kernel_rfl))
 f299:=Tryz.func139.trans (congrArg some (by kernel_rfl))
 f300:=Tryz.func141.trans (congrArg some (by kernel_rfl))
 f301:=Tryz.func142.trans (congrArg some (by kernel_rfl))
 f328:=Tryz.func154.trans (congrArg some (by kernel_rfl))
 f329:=Tryz.func155.trans (congrArg some (by kernel_rfl))
 f330:=Tryz.func156.trans (congrArg some (by kernel_rfl))
 f331:=Tryz.func157.trans (congrArg some (by kernel_rfl))
 f332:=Tryz.func158.trans (congrArg some (by kernel_rfl))
 f343:=Tryz.func162.trans (congrArg some (by kernel_rfl))
 t0:=Tryz.underlying0
 a0:=Tryz.isAgg0
 z0:=Tryz.sizeOf0
 v0:=Tryz.zeroValue0
 t3:=Tryz.underlying3
 a3:=Tryz.isAgg3
 z3:=Tryz.sizeOf3
 v3:=Tryz.zeroValue3
 t4:=Tryz.underlying4
 a4:=Tryz.isAgg4
 z4:=Tryz.sizeOf4
 v4:=Tryz.zeroValue4
 t5:=Tryz.underlying5
 a5:=Tryz.isAgg5
 z5:=Tryz.sizeOf5
 v5:=Tryz.zeroValue5
 t9:=Tryz.underlying9
 a9:=Tryz.isAgg9
 z9:=Tryz.sizeOf9
 v9:=Tryz.zeroValue9
 t28:=Tryz.underlying23
 a28:=Tryz.isAgg23
 z28:=Tryz.sizeOf23
 v28:=Tryz.zeroValue23
 t46:=Tryz.underlying87
 a46:=Tryz.isAgg87
 z46:=Tryz.sizeOf87
 v46:=Tryz.zeroValue87
 t51:=Tryz.underlying182
 a51:=Tryz.isAgg182
 z51:=Tryz.sizeOf182
 v51:=Tryz.zeroValue182
 t53:=Tryz.underlying83
 a53:=Tryz.isAgg83
 z53:=Tryz.sizeOf83
 v53:=Tryz.zeroValue83
 t131:=Tryz.underlying179
 a131:=Tryz.isAgg179
 z131:=Tryz.sizeOf179
 v131:=Tryz.zeroValue179
 t182:=Tryz.underlying174
 a182:=Tryz.isAgg174
 z182:=Tryz.sizeOf174
 v182:=Tryz.zeroValue174
 t183:=Tryz.underlying175
 a183:=Tryz.isAgg175
 z183:=Tryz.sizeOf175
 v183:=Tryz.zeroValue175
 t218:=Tryz.underlying189
 a218:=Tryz.isAgg189
 z218:=Tryz.sizeOf189
 v218:=Tryz.zeroValue189
 t222:=Tryz.underlying192
 a222:=Tryz.isAgg192
 z222:=Tryz.sizeOf192
 v222:=Tryz.zeroValue192
 t228:=Tryz.underlying196
 a228:=Tryz.isAgg196
 z228:=Tryz.sizeOf196
 v228:=Tryz.zeroValue196
 t229:=Tryz.underlying163
 a229:=Tryz.isAgg163
 z229:=Tryz.sizeOf163
 v229:=Tryz.zeroValue163 }
theorem Tryz.yA {g cap:Nat} {cur:Array Value} {e0:TypeId} {zs:List Int} {w:World} (hb:w.heap[g]? = some (.cells cur e0 (0,0))) (ht:cur.toList.take zs.length=zs.map (Value.int .i64)) (hl:zs.length≤1000) :
  Calls Tryz.prog 99 #[.slice (some ⟨g,0,none⟩) zs.length cap] w fun e w'=>e = .returned (.tuple #[])∧w.grownBy w' (some g)∧w'.heap[g]? = some (.cells (putCells (Value.int .i64) 0 (zs.mergeSort fun x y=>decide (x≤y)).toArray cur) e0 (0,0)):=by
 have h:=Any.slices_Sort_int Tryz.sortInt g 0 cap zs w (holds_of_blockI hb ht) (Array.getElem?_eq_some_iff.1 hb).1 (by omega)
 refine h.mono ?_
 rintro e w' ⟨rfl,n,os,rfl⟩
 exact⟨rfl,grownBy_sortedI _,heap_sortedI _ hb⟩
end Go.Proofs
end
section
namespace Go.Tv
open Go Go.Di Go.Conc Go.Co Go.Proofs
variable {af:Machine→Trace→Prop} {x:Cx}
section
variable {P:Program} {ty:eV} {aD:bn} {call:aW} {yf:dH}
theorem wL {L:Nat} {fn:FuncId} {fC:Bool} {m:List Code} {e':List DV} {s':ak}:∀ (l:List Code) {env:List DV} {S:ak},bC P ty aD call yf L fn fC (uK (l++m) .skip) env S=some (.normal,e',s') →
  ∃ e1 s1,bC P ty aD call yf L fn fC (uK l .skip) env S=some (.normal,e1,s1)∧bC P ty aD call yf L fn fC (uK m .skip) e1 s1=some (.normal,e',s')
 | [],env,S,h=>⟨env,S,rfl,h⟩
 | c::l,env,S,h=>by
  simp only[List.cons_append,uK,bC] at h
  split at h
  ·rename_i e1 s1 h1
   obtain⟨e2,s2,h2,h3⟩:=wL l h
   exact⟨e2,s2,by simp only[uK,bC,h1]; exact h2,h3⟩
  ·rename_i r hne
   exact absurd h (hne _ _)
theorem yZ (hP:Plain P) (hc:gq P af call) (gd:∀ id ops draw,oK P af ty aD call yf id ops draw) {L:Nat} {fn:FuncId} {n0:Nat} {b:Frame} {cs:List Frame} (hk:b.kind ≠ .early) (HK:b.fn=fn) (PZ:b.roundOf=none) :
  ∀ (pre:List Code) (rest:Code) {k:List Item} {env ay:List DV} {S':ak} {a:Act} {x:Cx} {ds:List Nat},bC P ty aD call yf L fn false (uK pre .skip) env x.S=some (.normal,ay,S')→Rel x→dR x env a.tmps→lK n0 x ds a.defers→n0≤x.S.length →
   (∀ y a' eE,y.S=S'→Rel y→bk x y→dR y ay a'.tmps→lK n0 y eE a'.defers→eY P af () (G (b.atR a' (.code rest::k)) cs) y.w)→eY P af () (G (b.atR a (.code (uK pre rest)::k)) cs) x.w
 | [],rest,k,env,ay,S',a,x,ds,h,hR,he,hd,pP,hn=>by
  simp only[uK,bC,Option.some.injEq,Prod.mk.injEq,true_and] at h
  obtain⟨rfl,rfl⟩:=h
  exact hn x a ds rfl hR (bk.refl x) he hd
 | c::pre,rest,k,env,ay,S',a,x,ds,h,hR,he,hd,pP,hn=>by
  simp only[uK,bC] at h
  split at h
  ·rename_i e1 s1 h1
   refine cE hP (fun w=>⟨_,B9⟩) ?_
   refine lB (fC:=false) hP hc hk HK (fun _=>PZ) c (lq gd c) h1 hR he hd pP fun y a' eE q1 q2 q3 q4 q5 => ?_
   subst q1
   exact yZ hP hc gd hk HK PZ pre rest h q2 q4 q5 (Nat.le_trans pP q3.len) fun z Y6 L8 r1 r2 r3 r4 r5=>hn z Y6 L8 r1 r2 (q3.trans r3) r4 r5
  ·rename_i r hne
   exact absurd h (hne _ _)
end
theorem y8 {y:Cx} {l:List DV} {vs:Array Value} (hsz:vs.size=l.length) (h:∀ j c,l[j]? = some c→∃ d,RV y d (vs.getD j undef)):∃ l':List DV,vs.size=l'.length∧∀ j c,l'[j]? = some c→RV y c (vs.getD j undef):=by
 have h':∀ j:Fin l.length,∃ d,RV y d (vs.getD j.1 undef):=fun j=>h j.1 _ (List.getElem?_eq_getElem j.2)
 refine⟨List.ofFn fun j=>Classical.choose (h' j),by simpa using hsz,fun j c hj => ?_⟩
 rw[List.getElem?_ofFn] at hj
 split at hj
 ·cases hj; exact Classical.choose_spec (h' _)
 ·cases hj
theorem XE {y:Cx} {d:DV} {v:Value} (h:RV x d v):∃ d',RV y d' v:=by
 induction h with
 | @val v h=>exact⟨_,.val h⟩
 | @agg l vs hsz _ ih =>
  obtain⟨l',h1,h2⟩:=y8 hsz ih
  exact⟨.agg l',.agg h1 h2⟩
 | @ee l vs hsz _ ih =>
  obtain⟨l',h1,h2⟩:=y8 hsz ih
  exact⟨.ee l',.ee h1 h2⟩
 | sl _ _ _ _ _ _ _ _=>exact⟨_,.val rfl⟩
 | ptr _=>exact⟨_,.val rfl⟩
 | cU _ _ _=>exact⟨_,.val rfl⟩
 | fn _ _ _ _ _ _=>exact⟨_,.val rfl⟩
 | map _=>exact⟨_,.val rfl⟩
 | uC _=>exact⟨_,.val rfl⟩
 | gD _ _ _=>exact⟨_,.val rfl⟩
 | dB _ _ _=>exact⟨_,.val rfl⟩
theorem SD {y:Cx} {env:List DV} {arr:Array Value} (h:dR x env arr):∃ ay,dR y ay arr∧ay.length=env.length:=by
 obtain⟨l',h1,h2⟩:=y8 (y:=y) h.1 fun j c hj=>XE (h.2 j c hj)
 exact⟨l',⟨h1,h2⟩,by rw[← h1,h.1]⟩
def wk1:DV→DV
 | .sl r _ _ => .sl r none ⟨false,none⟩
 | d=>d
def wk2:DV→DV
 | .agg l => .agg (l.map wk1)
 | d=>wk1 d
def U9:DV→DV
 | .ee l => .ee (l.map wk2)
 | d=>wk2 d
theorem B8 {d:DV} {v:Value} (h:RV x d v):RV x (wk1 d) v:=by
 cases h with
 | sl h1 h2 h3 h4 h5 h6 h7=>exact .sl h1 h2 h3 ⟨fun h=>(nomatch h),fun b h=>(nomatch h)⟩ h5 h6 (fun t h=>(nomatch h))
 | val h=>exact .val h
 | agg h1 h2=>exact .agg h1 h2
 | ee h1 h2=>exact .ee h1 h2
 | ptr h=>exact .ptr h
 | cU h1 h2=>exact .cU h1 h2
 | fn h1 h2 h3 h4=>exact .fn h1 h2 h3 h4
 | map h=>exact .map h
 | uC h=>exact .uC h
 | gD h1 h2 h3=>exact .gD h1 h2 h3
 | dB h1 h2 h3=>exact .dB h1 h2 h3
theorem MX {f:DV→DV} {l:List DV} {vs:Array Value} (hf:∀ d v,RV x d v→RV x (f d) v) (h:∀ j c,l[j]? = some c→RV x c (vs.getD j undef)):∀ j c,(l.map f)[j]? = some c→RV x c (vs.getD j undef):=fun j c hj=>by
 rw[List.getElem?_map,Option.map_eq_some_iff] at hj
 obtain⟨d,h1,rfl⟩:=hj
 exact hf _ _ (h j d h1)
theorem MV {d:DV} {v:Value} (h:RV x d v):RV x (wk2 d) v:=by
 cases h with
 | agg h1 h2=>exact .agg (by simpa using h1) (MX (fun _ _=>B8) h2)
 | sl h1 h2 h3 h4 h5 h6 h7=>exact B8 (.sl h1 h2 h3 h4 h5 h6 h7)
 | val h=>exact .val h
 | ee h1 h2=>exact .ee h1 h2
 | ptr h=>exact .ptr h
 | cU h1 h2=>exact .cU h1 h2
 | fn h1 h2 h3 h4=>exact .fn h1 h2 h3 h4
 | map h=>exact .map h
 | uC h=>exact .uC h
 | gD h1 h2 h3=>exact .gD h1 h2 h3
 | dB h1 h2 h3=>exact .dB h1 h2 h3
theorem WK {d:DV} {v:Value} (h:RV x d v):RV x (U9 d) v:=by
 cases h with
 | ee h1 h2=>exact .ee (by simpa using h1) (MX (fun _ _=>MV) h2)
 | agg h1 h2=>exact MV (.agg h1 h2)
 | sl h1 h2 h3 h4 h5 h6 h7=>exact B8 (.sl h1 h2 h3 h4 h5 h6 h7)
 | val h=>exact .val h
 | ptr h=>exact .ptr h
 | cU h1 h2=>exact .cU h1 h2
 | fn h1 h2 h3 h4=>exact .fn h1 h2 h3 h4
 | map h=>exact .map h
 | uC h=>exact .uC h
 | gD h1 h2 h3=>exact .gD h1 h2 h3
 | dB h1 h2 h3=>exact .dB h1 h2 h3
end Go.Tv
end
section
namespace Go.Tv
open Go Go.Di Go.Conc Go.Co Go.Proofs
variable {af:Machine→Trace→Prop} {x:Cx}
theorem Bl {id:Nat} {l l':List DV} (h:x.S[id]? = some (.cells l)):bk x { x with S:=x.S.set id (.cells l') }:=by
 have aQ:=fun j=>cI h (.cells l') j
 refine⟨Nat.le_refl _,⟨rfl,rfl⟩,fun _ _ h=>⟨h,rfl⟩,fun _ _ h => .inl h,fun _ _ _=>rfl,by simp,fun i m hm=>⟨rfl,?_⟩,fun i b hb ho=>⟨rfl,?_,fun _=>rfl⟩,fun t e s n ht=>⟨n,?_,Nat.le_refl _,fun _=>⟨rfl,rfl⟩⟩,fun i hi => .inl ⟨?_,rfl⟩,fun t e s m z ht=>⟨m,z,?_,Nat.le_refl _,fun e=>⟨rfl,e⟩,fun _=>⟨rfl,rfl⟩⟩⟩
 ·by_cases e:i=id
  ·exact⟨l',by show (x.S.set id _)[i]? = _; rw[aQ,if_pos e]⟩
  ·exact⟨m,by show (x.S.set id _)[i]? = _; rw[aQ,if_neg e]; exact hm⟩
 ·by_cases e:i=id
  ·subst e; rw[h] at hb; cases hb; cases ho
  ·exact⟨b,by show (x.S.set id _)[i]? = _; rw[aQ,if_neg e]; exact hb,dw ho⟩
 ·have e:t≠id:=by rintro rfl; rw[h] at ht; cases ht
  show (x.S.set id _)[t]? = _
  rw[aQ,if_neg e]; exact ht
 ·obtain⟨b,h1,h2⟩:=hi
  have h1:(x.S.set id (.cells l'))[i]? = some b:=h1
  rw[aQ] at h1
  split at h1
  ·rename_i e; subst e; exact⟨_,h,by simp⟩
  ·exact⟨b,h1,h2⟩
 ·have e:t≠id:=by rintro rfl; rw[h] at ht; cases ht
  show (x.S.set id _)[t]? = _
  rw[aQ,if_neg e]; exact ht
theorem Oa {id:Nat} {l l':List DV} (hR:Rel x) (h:x.S[id]? = some (.cells l)) (hl:l'.length=l.length) (hv:∀ arr e,x.w.heap[x.μ id]? = some (.cells arr e (0,0))→∀ j c,l'[j]? = some c→RV { x with S:=x.S.set id (.cells l') } c (arr.getD j undef)):Rel { x with S:=x.S.set id (.cells l') }:=by
 have M:=Bl (l':=l') h
 have aQ:=fun j=>cI h (.cells l') j
 have fV:∀ i,Live { x with S:=x.S.set id (.cells l') }.S i→Live x.S i:=fun i hi=>by
  rcases M.live i hi with h1 | h1
  ·exact h1.1
  ·obtain⟨b,h1,h2⟩:=hi
   have h1:(x.S.set id (.cells l'))[i]? = some b:=h1
   rw[aQ] at h1
   split at h1
   ·rename_i e; subst e; exact⟨_,h,by simp⟩
   ·exact⟨b,h1,h2⟩
 refine⟨fun i m hm => ?_,fun i e s n hm => ?_,fun i b hm hb => ?_,fun i j hi hj he=>hR.inj i j (fV i hi) (fV j hj) he,hR.uI,fun i ⟨m,hm⟩ => ?_,fun i e s n hm => ?_,fun i e s m z hm => ?_⟩
 ·have hm:(x.S.set id (.cells l'))[i]? = some (.cells m):=hm
  rw[aQ] at hm
  split at hm
  ·rename_i e
   have e2:l'=m:=by simpa using hm
   subst e2
   subst e
   obtain⟨arr,e,h1,h2,-⟩:=hR.cells i l h
   exact⟨arr,e,h1,h2.trans hl.symm,hv arr e h1⟩
  ·obtain⟨arr,e,h1,h2,h3⟩:=hR.cells i m hm
   exact⟨arr,e,h1,h2,fun j c hc=>(h3 j c hc).mono M⟩
 ·have hm:(x.S.set id (.cells l'))[i]? = some (.tail e s n):=hm
  rw[aQ] at hm
  split at hm
  ·cases hm
  ·exact hR.cN i e s n hm
 ·have hm:(x.S.set id (.cells l'))[i]? = some b:=hm
  rw[aQ] at hm
  split at hm
  ·cases hm; cases hb
  ·obtain⟨o,h1,h2⟩:=hR.c9 i b hm hb
   exact⟨o,h1,h2.mono M⟩
 ·have hm:(x.S.set id (.cells l'))[i]? = some (.cells m):=hm
  rw[aQ] at hm
  split at hm
  ·rename_i e; subst e; exact hR.sep i ⟨l,h⟩
  ·exact hR.sep i ⟨m,hm⟩
 ·have hm:(x.S.set id (.cells l'))[i]? = some (.tail e s n):=hm
  rw[aQ] at hm
  split at hm
  ·cases hm
  ·exact hR.lF i e s n hm
 ·have hm:(x.S.set id (.cells l'))[i]? = some (.op e s m z):=hm
  rw[aQ] at hm
  split at hm
  ·cases hm
  ·obtain⟨arr,h1,h2,h3,h4,h5,h6⟩:=hR.ops i e s m z hm
   exact⟨arr,h1,h2,h3,h4,fun j c hc=>⟨(h5 j c hc).1,(h5 j c hc).2.mono M⟩,h6⟩
theorem J2 {ι:jF} {te:List TV} {tS:List TB} {env:List DV} {S:ak} {k id:Nat} {ts qy:List TV} {ds eE:List DV} (h:bK ι te tS env S) (hk:tS[k]? = some (.cells ts)) (hi:ι k=some id) (hS:S[id]? = some (.cells ds)) (hr:cA ι (S.set id (.cells eE)) qy eE):bK ι te (tS.set k (.cells qy)) env (S.set id (.cells eE)):=by
 have hlt:=(List.getElem?_eq_some_iff.1 hk).1
 have K:jg ι S ι (S.set id (.cells eE)) fun _=>False:=fun a b _ lX=>⟨lX,by
  by_cases e1:b=id
  ·subst e1
   exact tH (fun _ _ _ h=>by rw[hS] at h; cases h) (fun _ _ _ _ h=>by rw[hS] at h; cases h)
  ·exact dM (by rw[cI hS,if_neg e1])⟩
 have hg:∀ j,(tS.set k (.cells qy))[j]? = if j=k then some (.cells qy) else tS[j]? := fun j=>by
  rw[List.getElem?_set]
  by_cases e:j=k
  ·subst e; simp[hlt]
  ·rw[if_neg (Ne.symm e),if_neg e]
 refine⟨aY K _ _ h.env,fun j l hj => ?_,fun j e s hj t ht => ?_,fun j j' hj => ?_,h.inj,fun j b hj t ht => ?_⟩
 ·rw[hg] at hj
  split at hj
  ·rename_i e; subst e; cases hj
   exact⟨id,eE,hi,by rw[cI hS,if_pos rfl],hr⟩
  ·rename_i e
   obtain⟨j',Jk,h1,h2,h3⟩:=h.cells j l hj
   refine⟨j',Jk,h1,?_,aY K _ _ h3⟩
   rw[cI hS,if_neg]
   ·exact h2
   ·rintro rfl; exact e (h.inj _ _ _ h1 hi)
 ·rw[hg] at hj
  split at hj
  ·cases hj
  ·obtain⟨n,h1⟩:=h.own j e s hj t ht
   exact⟨n,(K j t (fun e=>e) ht).2.1 _ _ _ h1⟩
 ·rw[hg]
  split
  ·exact⟨_,rfl,by simp⟩
  ·exact h.uE j j' hj
 ·rw[hg] at hj
  split at hj
  ·cases hj; trivial
  ·rename_i e
   have h1:=h.mp j b hj t ht
   rw[cI hS,if_neg]
   ·exact h1
   ·rintro rfl; exact e (h.inj _ _ _ ht hi)
theorem eT:∀ {l:List Int} {rows:List DV},dK (CR bX) bX.agg l rows→rows=Go.Tv.rowsOf l
 | [],[],_=>rfl
 | [],_::_,h=>h.elim
 | _::_,[],h=>h.elim
 | n::l,r::rows,h=>by
  obtain⟨⟨h1,h2⟩,h3⟩:=h
  rw[eT h3]
  have h1:r.cells=[.val (.int .i64 n)]:=h1
  have:r = .val (.int .i64 n):=by
   cases r<;>simp only[DV.cells] at h1<;>first | (cases h1; rfl) | (cases h1; done) | exact(h2 rfl _ rfl).elim | skip
   all_goals exact(h2 _ rfl).elim
  rw[this]; rfl
theorem Ev {rows:List DV} {tok:Option Nat} {f:SF} {v:Value} (h:RV x (.sl rows tok f) v):∃ a c,v = .slice a rows.length c:=by
 cases h with
 | sl _ _ _ _ _ _ _=>exact⟨_,_,rfl⟩
abbrev DU (l:List Int):DV := .sl (Go.Tv.rowsOf l) none ⟨false,none⟩
def uT (n:Int) (u l q:List Int) (w:Int):DV := .ee [.agg [DU (bO n u l),DU (bP n u l),.val (.int .i64 w),DU (kQ (eZ n q))],.val (.int .i64 0)]
end Go.Tv
end
section
namespace Go.Tv
open Go Go.Di Go.Conc Go.Co Go.Proofs
variable {x0 x1 y:Cx} {w3:World}
def AU:DB→DB
 | .defer => .defer
 | _ => .none
abbrev zD:DV := .sl [] none ⟨true,some true⟩
abbrev vJ:List DV:=[zD,zD,.val (.int .i64 0),zD]
def FY (ru rl:List DV) (w:Int) (qs:List Int):List DV:=[.sl ru none ⟨false,none⟩,.sl rl none ⟨false,none⟩,.val (.int .i64 w),DU (kQ qs)]
def oP (x1 y:Cx) (w3:World) (k1 k3 t:Nat) (ru rl:List DV) (w:Int) (qs:List Int):Cx :=
 ⟨w3,y.μ,y.κ,fun b o=>x1.Fz b o∨(b=y.μ t∧o<qs.length),((y.S.map AU).set k1 (.cells vJ)).set k3 (.cells (FY ru rl w qs))⟩
theorem Mg {x z:Cx} {v:Value} (h:RV x zD v):RV z zD v:=by
 cases h with
 | @sl _ _ _ A cap s vs h1 h2 h3 h4 h5 h6 h7=>exact .sl (s:=s) (vs:=vs) ⟨by simp,by simp[flat]⟩ (by simp[flat]) h3 h4 h5 h6 (fun t h=>(nomatch h))
theorem fA (l:List Int):(Go.Tv.rowsOf l).length=l.length:=by simp[Go.Tv.rowsOf]
structure fe (x0 x1 y:Cx) (w3:World) (k1 k3 t:Nat) (ru rl:List DV) (w:Int) (qs:List Int) (cur:Array Value) (v0 v1:Value):Prop where
 h0:x0.S=[]
 U7:bk x0 x1
 R1:Rel x1
 M1:bk x1 y
 Ry:Rel y
 vH:∃ l,x1.S[k3]? = some (.cells l)
 ow:∃ l,x1.S[k1]? = some (.cells l)
 hne:k1≠k3
 Yp:∃ f,y.S[k3]? = some (.cells [.val v0,.val v1,.val (.int .i64 w),.sl (Go.Tv.rowsOf qs) (some t) f])
 Po:y.S[k1]? = some (.cells vJ)
 Pn:y.S[t]? = some (.tail 3 1 (qs.length*1))
 XU:¬ Live x1.S t
 rU:∃ tk f,RV x1 (.sl ru tk f) v0
 rL:∃ tk f,RV x1 (.sl rl tk f) v1
 DD:y.w.heap[y.μ t]? = some (.cells cur 3 (0,0))
 gos:w3.os=y.w.os
 ZM:w3.output=y.w.output
 gsz:y.w.heap.size≤w3.heap.size
 ZN:∀ k,k<y.w.heap.size→k≠y.μ t→w3.heap[k]? = y.w.heap[k]?
 UE:w3.heap[y.μ t]? = some (.cells (Sort.putCells (Value.int .i64) 0 (kQ qs).toArray cur) 3 (0,0))
 hsz:qs.length≤cur.size
variable {k1 k3 t:Nat} {ru rl:List DV} {w:Int} {qs:List Int} {cur:Array Value} {v0 v1:Value}
theorem u7 (l:List Int):(kQ l).length=l.length:=List.length_mergeSort ..
theorem fK {S:ak} {i:Nat} {b:DB} (h:S[i]? = some b) (hb:b ≠ .none):Live S i:=⟨b,h,hb⟩
theorem fe.new (h:fe x0 x1 y w3 k1 k3 t ru rl w qs cur v0 v1):x1.w.heap.size≤y.μ t:=by
 rcases h.M1.live t (fK h.Pn (by simp)) with h1 | h1
 ·exact absurd h1.1 h.XU
 ·exact h1
theorem fe.old (h:fe x0 x1 y w3 k1 k3 t ru rl w qs cur v0 v1) {b:Nat} (hb:b<y.w.heap.size) (hg:b≠y.μ t):w3.heap[b]? = y.w.heap[b]? := h.ZN b hb hg
theorem od {x:Cx} (hR:Rel x) {b o:Nat} (h:x.Fz b o):b<x.w.heap.size:=by
 obtain⟨v,hv⟩:=hR.uI b o h
 exact World.block_lt_of_cell? _ ⟨b,o,none⟩ hv
theorem fe.cell (h:fe x0 x1 y w3 k1 k3 t ru rl w qs cur v0 v1) {b o:Nat} (hF:x1.Fz b o):w3.cell? ⟨b,o,none⟩=x1.w.cell? ⟨b,o,none⟩:=by
 have h1:=od h.R1 hF
 have h2:=h.new
 rw[← (h.M1.fz b o hF).2]
 exact cell_of_block (h.old (Nat.lt_of_lt_of_le h1 h.M1.size) (by omega)) o
theorem fe.get (h:fe x0 x1 y w3 k1 k3 t ru rl w qs cur v0 v1) (i:Nat):(oP x1 y w3 k1 k3 t ru rl w qs).S[i]? = if i=k3 then some (.cells (FY ru rl w qs)) else if i=k1 then some (.cells vJ) else (y.S[i]?).map AU:=by
 obtain⟨f,h3⟩:=h.Yp
 have l3:=(List.getElem?_eq_some_iff.1 h3).1
 have l1:=(List.getElem?_eq_some_iff.1 h.Po).1
 show (((y.S.map AU).set k1 _).set k3 _)[i]? = _
 rw[List.getElem?_set,List.getElem?_set]
 by_cases e:i=k3
 ·subst e; simp[l3]
 ·rw[if_neg (Ne.symm e),if_neg e]
  by_cases e1:i=k1
  ·subst e1; simp[l1]
  ·rw[if_neg (Ne.symm e1),if_neg e1,List.getElem?_map]
theorem iA {o:Option DB} {b:DB} (h:o.map AU=some b) (hb:b ≠ .none):o=some .defer∧b = .defer:=by
 cases o with
 | none=>cases h
 | some c=>cases c<;>simp only[Option.map_some,AU,Option.some.injEq] at h<;>subst h<;>first | exact⟨rfl,rfl⟩ | exact absurd rfl hb
theorem fe.live (h:fe x0 x1 y w3 k1 k3 t ru rl w qs cur v0 v1) {i:Nat} (hi:Live (oP x1 y w3 k1 k3 t ru rl w qs).S i):Live y.S i∧i≠t:=by
 obtain⟨f,h3⟩:=h.Yp
 obtain⟨b,h1,h2⟩:=hi
 rw[h.get] at h1
 split at h1
 ·rename_i e; subst e
  exact⟨fK h3 (by simp),by rintro rfl; rw[h.Pn] at h3; cases h3⟩
 ·split at h1
  ·rename_i e; subst e
   exact⟨fK h.Po (by simp),by rintro rfl; have h5:=h.Po; rw[h.Pn] at h5; cases h5⟩
  ·obtain⟨e1,e2⟩:=iA h1 h2
   exact⟨fK e1 (by simp),by rintro rfl; rw[h.Pn] at e1; cases e1⟩
theorem fe.mono (h:fe x0 x1 y w3 k1 k3 t ru rl w qs cur v0 v1):bk x0 (oP x1 y w3 k1 k3 t ru rl w qs):=by
 have My:=h.U7.trans h.M1
 have qF:=h.new
 have hs:=h.U7.size
 have Xa:∀ i,¬ Live x0.S i:=fun i ⟨b,hb,_⟩=>by rw[h.h0] at hb; simp at hb
 refine⟨Nat.le_trans My.size h.gsz,⟨h.gos.trans My.env.1,h.ZM.trans My.env.2⟩,fun b o hF => ?_,fun b o hF => ?_,fun b hb hn => ?_,by rw[h.h0]; exact Nat.zero_le _,fun i l hl => ?_,fun i b hl _ => ?_,fun i e s n hl => ?_,fun i hi => ?_,fun i e s m z hl=>by rw[h.h0] at hl; simp at hl⟩
 ·have h1:=h.U7.fz b o hF
  exact⟨.inl h1.1,(h.cell h1.1).trans h1.2⟩
 ·rcases hF with hF | ⟨rfl,-⟩
  ·exact h.U7.Hx b o hF
  ·exact .inr (.inl (Nat.le_trans hs qF))
 ·rw[← My.old b hb hn]
  exact h.old (Nat.lt_of_lt_of_le hb My.size) (by omega)
 ·rw[h.h0] at hl; simp at hl
 ·rw[h.h0] at hl; simp at hl
 ·rw[h.h0] at hl; simp at hl
 ·rcases My.live i (h.live hi).1 with h1 | h1
  ·exact absurd h1.1 (Xa i)
  ·exact .inr h1
theorem Ex (l:List Int) (j:Nat) (c:DV) (h:(flat (Go.Tv.rowsOf l))[j]? = some c):c = .val (.int .i64 (l.getD j 0))∧j<l.length:=by
 rw[lV,Go.Tv.rowsOf,List.getElem?_map,Option.map_eq_some_iff] at h
 obtain⟨n,h1,rfl⟩:=h
 exact⟨by rw[List.getD_eq_getElem?_getD,h1]; rfl,(List.getElem?_eq_some_iff.1 h1).1⟩
theorem fe.rv (h:fe x0 x1 y w3 k1 k3 t ru rl w qs cur v0 v1) {r:List DV} {tk:Option Nat} {f:SF} {v:Value} (hv:RV x1 (.sl r tk f) v):RV (oP x1 y w3 k1 k3 t ru rl w qs) (.sl r none ⟨false,none⟩) v :=
 RV.pure_mono (x:=x1) (y:=oP x1 y w3 k1 k3 t ru rl w qs) (fun b o hF=>⟨Or.inl hF,h.cell hF⟩) (B8 hv) rfl
theorem fe.row (h:fe x0 x1 y w3 k1 k3 t ru rl w qs cur v0 v1) {f:SF} {v:Value} (hv:RV y (.sl (Go.Tv.rowsOf qs) (some t) f) v):RV (oP x1 y w3 k1 k3 t ru rl w qs) (DU (kQ qs)) v:=by
 cases hv with
 | @sl _ _ _ A cap s vs h1 h2 h3 h4 h5 h6 h7 =>
  obtain⟨e,s',n,k1',k2,k3',k4⟩:=h7 t rfl
  rw[h.Pn] at k1'
  cases k1'
  obtain⟨rfl,rfl⟩:=k4 (by rw[fA])
  have hl:(Go.Tv.rowsOf (kQ qs)).length=(Go.Tv.rowsOf qs).length:=by rw[fA,fA,u7]
  rw[← hl]
  refine .sl (s:=1) (vs:=fun j => .int .i64 ((kQ qs).getD j 0)) ⟨fun r hr => ?_,fun j c hj => ?_⟩ (fun j c hj => ?_) (by rw[hl]; exact h3) ⟨fun h=>(nomatch h),fun b h=>(nomatch h)⟩ h5 h6 (fun t h=>(nomatch h))
  ·simp only[Go.Tv.rowsOf,List.mem_map] at hr
   obtain⟨m,-,rfl⟩:=hr
   rfl
  ·obtain⟨rfl,sU⟩:=Ex _ _ _ hj
   clear hj
   rw[u7] at sU
   refine⟨rfl,y.μ t,0,rfl,.inr ⟨rfl,by omega⟩,?_⟩
   have hs:=h.hsz
   show w3.cell? ⟨y.μ t,0+j,none⟩=_
   simp only[World.cell?,h.UE,Nat.zero_add,Option.isSome_none,Bool.false_eq_true,if_false]
   simp[Sort.putCells,show j<cur.size by omega,u7,sU,List.getD_eq_getElem?_getD]
  ·obtain⟨rfl,-⟩:=Ex _ _ _ hj
   exact .val rfl
theorem fe.rel (h:fe x0 x1 y w3 k1 k3 t ru rl w qs cur v0 v1):Rel (oP x1 y w3 k1 k3 t ru rl w qs):=by
 have qF:=h.new
 obtain⟨f3,h3⟩:=h.Yp
 have hlt:∀ {b:Nat} {o:Obj},y.w.heap[b]? = some o→b<y.w.heap.size:=fun h=>(Array.getElem?_eq_some_iff.1 h).1
 have VE:∀ i,Live y.S i→i≠t→y.μ i≠y.μ t:=fun i hi hne e=>hne (h.Ry.inj i t hi (fK h.Pn (by simp)) e)
 have n3:=VE k3 (fK h3 (by simp)) (by rintro rfl; rw[h.Pn] at h3; cases h3)
 have n1:=VE k1 (fK h.Po (by simp)) (by rintro rfl; have h5:=h.Po; rw[h.Pn] at h5; cases h5)
 have Zj:∀ k,(∃ l,x1.S[k]? = some (.cells l))→∀ o,¬ x1.Fz (y.μ k) o:=fun k ⟨l,hl⟩ o hF=>by
  have:=(h.M1.cells k l hl).1
  rw[this] at hF
  exact h.R1.sep k ⟨l,hl⟩ o hF
 refine⟨fun i m hm => ?_,fun i e s n hm => ?_,fun i b hm hb => ?_,fun i j hi hj he=>h.Ry.inj i j (h.live hi).1 (h.live hj).1 he,fun b o hF => ?_,fun i ⟨m,hm⟩ o hF => ?_,fun i e s n hm => ?_,fun i e s m z hm => ?_⟩
 ·rw[h.get] at hm
  split at hm
  ·rename_i e
   have e2:FY ru rl w qs=m:=by simpa using hm
   subst e2
   subst e
   obtain⟨arr,e,q1,q2,q3⟩:=h.Ry.cells i _ h3
   obtain⟨tU,fU,rU⟩:=h.rU
   obtain⟨tL,fL,rL⟩:=h.rL
   have a0:arr.getD 0 undef=v0:=jS (q3 0 _ rfl)
   have a1:arr.getD 1 undef=v1:=jS (q3 1 _ rfl)
   have a2:arr.getD 2 undef = .int .i64 w:=jS (q3 2 _ rfl)
   refine⟨arr,e,(h.old (hlt q1) n3).trans q1,q2,fun j c hc => ?_⟩
   match j,hc with
   | 0,hc=>cases hc; rw[a0]; exact h.rv rU
   | 1,hc=>cases hc; rw[a1]; exact h.rv rL
   | 2,hc=>cases hc; rw[a2]; exact .val rfl
   | 3,hc=>cases hc; exact h.row (q3 3 _ rfl)
   | j+4,hc=>simp[FY] at hc
  ·split at hm
   ·rename_i e
    have e2:vJ=m:=by simpa using hm
    subst e2
    subst e
    obtain⟨arr,e,q1,q2,q3⟩:=h.Ry.cells i _ h.Po
    refine⟨arr,e,(h.old (hlt q1) n1).trans q1,q2,fun j c hc => ?_⟩
    match j,hc with
    | 0,hc=>cases hc; exact Mg (q3 0 _ rfl)
    | 1,hc=>cases hc; exact Mg (q3 1 _ rfl)
    | 2,hc=>cases hc; rw[jS (q3 2 _ rfl)]; exact .val rfl
    | 3,hc=>cases hc; exact Mg (q3 3 _ rfl)
    | j+4,hc=>simp at hc
   ·exact absurd (iA hm (by simp)).2 (by simp)
 ·rw[h.get] at hm
  split at hm
  ·cases hm
  ·split at hm
   ·cases hm
   ·exact absurd (iA hm (by simp)).2 (by simp)
 ·rw[h.get] at hm
  split at hm
  ·cases hm; cases hb
  ·split at hm
   ·cases hm; cases hb
   ·obtain⟨e1,rfl⟩:=iA hm (by rintro rfl; cases hb)
    obtain⟨o,q1,q2⟩:=h.Ry.c9 i _ e1 rfl
    have hne:=VE i (fK e1 (by simp)) (by rintro rfl; rw[h.Pn] at e1; cases e1)
    refine⟨o,(h.old (hlt q1) hne).trans q1,?_⟩
    cases o<;>first | exact q2.elim | trivial
 ·rcases hF with hF | ⟨rfl,ho⟩
  ·obtain⟨v,hv⟩:=h.R1.uI b o hF
   exact⟨v,(h.cell hF).trans hv⟩
  ·have hs:=h.hsz
   have:o<(Sort.putCells (Value.int .i64) 0 (kQ qs).toArray cur).size:=by simp[Sort.putCells]; omega
   refine⟨(Sort.putCells (Value.int .i64) 0 (kQ qs).toArray cur)[o],?_⟩
   show w3.cell? ⟨y.μ t,o,none⟩=_
   simp only[World.cell?,h.UE,Option.isSome_none,Bool.false_eq_true,if_false]
   exact Array.getElem?_eq_getElem this
 ·rw[h.get] at hm
  split at hm
  ·rename_i e; subst e
   rcases hF with hF | ⟨e,-⟩
   ·exact Zj _ h.vH o hF
   ·exact n3 e
  ·split at hm
   ·rename_i e; subst e
    rcases hF with hF | ⟨e,-⟩
    ·exact Zj _ h.ow o hF
    ·exact n1 e
   ·exact absurd (iA hm (by simp)).2 (by simp)
 ·rw[h.get] at hm
  split at hm
  ·cases hm
  ·split at hm
   ·cases hm
   ·exact absurd (iA hm (by simp)).2 (by simp)
 ·rw[h.get] at hm
  split at hm
  ·cases hm
  ·split at hm
   ·cases hm
   ·exact absurd (iA hm (by simp)).2 (by simp)
end Go.Tv
end
