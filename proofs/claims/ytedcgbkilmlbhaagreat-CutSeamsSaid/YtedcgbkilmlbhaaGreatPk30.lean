import Derived.Test.YtedcgbkilmlbhaaGreatPk29
import Derived.Conc.SmallLaws
section
namespace Go.Co
open Go Go.Conc Go.Proofs
variable {af:Machine→Trace→Prop} {γ:So} {w:World}
theorem BJ {cf cl:Nat} {z2:Value} {pM:Bool} (k:Nat):GF cf cl z2 pM k ≠ .ret∧GF cf cl z2 pM k ≠ .stop:=by cases k<;>simp[GF]
theorem Fy {P:Program} {main:Bool} {fn:FuncId} {ops:Array Oper} {todo:List Nat} {Q:Gm→Exit→Act→World→Prop} {a:Act}:KO (KG P af main) fn (.bad,γ) ops todo Q a w:=fun _ _ _ _ _ _ _ _=>trivial
theorem Yq:(Tryz.prog.info? 4).map (fun i=>(i.zero,i.size,i.bytes))=some (some (.bool false),1,1):=by kernel_rfl
theorem aer (f:FuncId):(Tryz.prog.funcs[f]?).any (·.norace)=false:=by
 have h:Tryz.prog.funcs.all (fun f => !f.norace)=true:=by kernel_rfl
 cases hf:Tryz.prog.funcs[f]? with
 | none=>rfl
 | some fn =>
  obtain⟨hlt,rfl⟩:=aR.1 hf
  simpa using Array.all_eq_true.1 h f hlt
noncomputable def FE:Code:=Tryz.f104.body.getD .skip
noncomputable def X85:Code:=match FE with | .seq x _=>x | _ => .skip
noncomputable def YR:Code:=match FE with | .seq _ r=>r | _ => .skip
def acy (ba bl bf:Nat) (vl:Value) (nl k:Nat) (u:Nat→Value):Act :=
 ⟨#[.pointer (some ⟨ba,0,none⟩),.pointer (some ⟨bl,0,none⟩),.pointer (some ⟨bf,0,none⟩),u 3,u 4,vl,.int .i64 nl,.int .i64 k,u 8,u 9,u 10,u 11,u 12],[]⟩
def Qh (cf cl bf:Nat) (z2:Value) (γ':Gm) (e:Exit) (a':Act) (w':World):Prop:=e = .normal∧γ'.1=GF cf cl z2 false 0∧bE γ'.2 w' ⟨bf,0,none⟩ (.chan (some cf))∧a'.defers=[]∧a'.tmps.size=13∧a'.tmps[2]? = some (.pointer (some ⟨bf,0,none⟩))
set_option maxRecDepth 100000 in
set_option maxHeartbeats 1000000 in
theorem Jd (hP:Plain Tryz.prog) {ba bl bf cf cl:Nat} {da:Wk} (uv:da.ok)
  (ha:gp γ w ba da) (hf:bE γ w ⟨bf,0,none⟩ (.chan (some cf))) (hl:bE γ w ⟨bl,0,none⟩ (.chan (some cl))) :
  KJ (KG Tryz.prog af false) 104 (GF cf cl (.bool false) false da.bp.length,γ) X85 (Qh cf cl bf (.bool false))
   ⟨#[.pointer (some ⟨ba,0,none⟩),.pointer (some ⟨bl,0,none⟩),.pointer (some ⟨bf,0,none⟩),undef,undef,undef,undef,undef,undef,undef,undef,undef,undef],[]⟩ w:=by
 have C:=zk (af:=af) (main:=false) hP
 have hp:∀ k,GF cf cl (.bool false) false k ≠ .ret:=fun k=>(BJ k).1
 obtain⟨vl,hvl,A,cap,rfl,-⟩:=ha.bp
 have acg:=uv.few
 obtain⟨i4,hi4,hy0,Uk,hy2⟩:=info_parts Yq
 refine aY C (cr C ?_)
 refine av C ?_
 try walk_nrm
 refine av C ?_
 try walk_nrm
 refine jj C (hp _) hvl ?_
 try walk_nrm
 refine av C ?_
 try walk_nrm
 refine av C ?_
 try walk_nrm
 refine aT C ?_
 co_then
 refine gH C ?_
 refine oy C (fun n γ' a w'=>∃ γ3 k,γ'=(GF cf cl (.bool false) false (da.bp.length-k),γ3)∧Kept γ w γ3 w'∧k≤da.bp.length∧n=da.bp.length-k∧∃ u,a=acy ba bl bf (.slice A da.bp.length cap) da.bp.length k u) (n:=da.bp.length) ⟨γ,0,rfl,Kept.refl _ _,by omega,by omega,oG rfl⟩ ?_
 rintro n γ' a w' ⟨γ3,k,hγ,y6,hk,hn,u,Dc⟩
 subst hγ
 unfold acy at Dc
 subst Dc
 refine aY C (cr C ?_)
 by_cases hlt:k<da.bp.length
 ·have Zd:decide ((k:Int)<(da.bp.length:Int))=true:=by simpa using hlt
  have hl3:=y6.sees hl
  have hw5:IntKind.i64.wrap ((k:Int)+1)=(k:Int)+1:=by rw[vn]<;>omega
  refine av C ?_
  try walk_nrm
  refine aT C ?_
  co_then
  refine aY C (dx C (t:=true) rfl ?_)
  simp only[if_true]
  refine ki C ?_
  co_then
  refine aY C (gH C (cr C ?_))
  refine jj C (hp _) hl3 ?_
  try walk_nrm
  have hm:da.bp.length-k=(da.bp.length-(k+1))+1:=by omega
  rw[hm]
  show KO _ _ (Pc.recv cl false (.bool false) (fun x=>match x with | some _=>GF cf cl (.bool false) false (da.bp.length-(k+1)) | none => .bad),γ3) _ _ _ _ _
  refine F5 rfl (by rfl) (fun w => ?_) (fun w => ?_) (fun x => ?_) (fun _ x => ?_) (fun x w7 r7 => ?_)
  ·simp[execOp,Act.eval,run_underlying Tryz.underlying137,zeroValue,typeInfo,hi4,hy0,rcase]
  ·simp[execOp,Act.eval,run_underlying Tryz.underlying137,zeroValue,typeInfo,hi4,hy0]
  ·cases x with
   | none=>simp
   | some v=>exact(BJ _).2
  ·cases x with
   | none=>simp
   | some v=>exact(BJ _).1
  cases x with
  | none=>exact Fy
  | some v =>
   have Ut:=y6.trans (Kept.rely r7)
   clear hl3 y6
   simp only[]
   try walk_nrm
   refine aT C ?_
   co_then
   refine cr C ?_
   refine av C ?_
   try walk_nrm
   refine av C ?_
   try walk_nrm
   refine aT C (eB ?_)
   exact⟨da.bp.length-(k+1),by omega,γ3,k+1,rfl,Ut,by omega,rfl,oG rfl⟩
 ·have Lf:k=da.bp.length:=by omega
  subst Lf
  have Zd:decide ((da.bp.length:Int)<(da.bp.length:Int))=false:=by simp
  simp only[Nat.sub_self]
  refine av C ?_
  try walk_nrm
  refine aT C ?_
  co_then
  refine aY C (dx C (t:=false) rfl ?_)
  simp only[aF,if_false]
  refine nD C ?_
  co_then
  exact⟨rfl,rfl,y6.sees hf,rfl,rfl,rfl⟩
def Ux:Frame:={ (default:Frame) with fn:=104,kind := .deferred }
def call85 (ba bl bf:Nat):Deferred:={ target := .fn (.func 104) #[.pointer (some ⟨ba,0,none⟩),.pointer (some ⟨bl,0,none⟩),.pointer (some ⟨bf,0,none⟩)],args:=#[] }
theorem Wy (a:Act) (hd:a.defers=[]) (ops:Array Oper):QuitsIn Tryz.prog 4 (G (Ux.at a [.inRegion ops []]) [bot]):=by
 obtain⟨T,df⟩:=a
 simp only at hd
 subst hd
 refine .inr ⟨rfl,_,fun w=>stepG_region_end,?_⟩
 refine .inr ⟨rfl,_,fun w=>stepG_end,?_⟩
 refine .inr ⟨rfl,G bot [],fun w => ?_,?_⟩
 ·simp[G,stepG,unwind,doReturn,results,Frame.at,Ux,bot,Tryz.func104,Tryz.f104,seen,GStep.after,goexitEntry]
 refine .inr ⟨rfl,{ G bot [] with status := .finished },fun w => ?_,rfl⟩
 simp[G,stepG,unwind,bot,goexitEntry,Frame.catches]
 rfl
theorem abz (ba bl bf:Nat) (w:World):stepG Tryz.prog false (born Tryz.prog (call85 ba bl bf)) w =
  .go (G (Ux.at ⟨#[.pointer (some ⟨ba,0,none⟩),.pointer (some ⟨bl,0,none⟩),.pointer (some ⟨bf,0,none⟩),undef,undef,undef,undef,undef,undef,undef,undef,undef,undef],[]⟩ [.code FE]) [bot]) w #[]:=by
 simp[born,call85,stepG,unwind,callDeferred,invoke,callFunc,Tryz.func104,Tryz.f104,seen,GStep.after,G,Frame.enter,Frame.at,Ux,bot,FE]
set_option maxRecDepth 100000 in
theorem OX (hP:Plain Tryz.prog) {ba bl bf cf cl:Nat} {da:Wk} (uv:da.ok)
  (ha:gp γ w ba da) (hf:bE γ w ⟨bf,0,none⟩ (.chan (some cf))) (hl:bE γ w ⟨bl,0,none⟩ (.chan (some cl))) :
  Pr Tryz.prog af false (GF cf cl (.bool false) false da.bp.length) γ (born Tryz.prog (call85 ba bl bf)) w:=by
 have C:=zk (af:=af) (main:=false) hP
 have hne:=BJ (cf:=cf) (cl:=cl) (z2 := .bool false) (pM:=false) da.bp.length
 suffices h:KG Tryz.prog af false (GF cf cl (.bool false) false da.bp.length,γ) (born Tryz.prog (call85 ba bl bf)) w from h (fun _=>hne.1) hne.2
 refine C.go (fr:=(born Tryz.prog (call85 ba bl bf)).frame) (cs:=[]) (fun w=>abz ba bl bf w) ?_
 show KG Tryz.prog af false _ (G (Ux.at _ (.code (.seq X85 YR)::[])) [bot]) w
 refine C.go (fun w=>stepG_seq) ?_
 refine Jd hP uv ha hf hl Ux [.code YR] [bot] rfl (by simp[Ux]) ?_
 rintro⟨p',γ'⟩ e a' w' ⟨rfl,rE,XQ,Aw,hsz',ht2⟩
 simp only at rE XQ
 subst rE
 show KG Tryz.prog af false _ (G (Ux.at a' (.code (.region _ _ false)::[])) [bot]) w'
 refine C.go (fun w=>stepG_region) ?_
 refine Mm C (BJ _).1 (v := .chan (some cf)) rfl (by rfl) (by simp[Ux]) (fun w₁ h₁=>⟨run_eq_of fun K hK => ?_,?_⟩) ?_
 ·have hc:=(XQ.rely h₁).2
  clear hsz'
  go_simp
  exact hK
 ·have hc:=(XQ.rely h₁).2
  intro e he
  simp[go_sem,hc,ht2] at he
  subst he
  exact(XQ.rely h₁).GD
 ·refine Dx aer rfl (by rfl) rfl ?_ (by simp[Ux]) ⟨4,QuitsD.of_quitsIn (Wy _ (by exact Aw) _)⟩
  simp[Act.eval,Act.put,hsz']
end Go.Co
end
section
namespace Go.Co
open Go Go.Conc Go.Proofs
open Classical
variable {P:Program} {af:Machine→Trace→Prop} {γ:So} {w:World}
theorem IJ {b:Nat}:γ.give.all b↔γ.all b:=⟨fun h=>h.elim id fun h=>h.elim,.inl⟩
theorem bE.give {ad:Addr} {v:Value} (h:bE γ w ad v):bE γ.give w ad v:=⟨IJ.2 h.1,h.2⟩
theorem xZ.give {v:Value} {l:List Int} (h:xZ γ w v l):xZ γ.give w v l:=by
 obtain⟨A,cap,rfl,h⟩:=h
 exact⟨A,cap,rfl,fun i x hx=>by obtain⟨ad,h1,h2⟩:=h i x hx; exact⟨ad,h1,h2.give⟩⟩
theorem gp.give {b:Nat} {d:Wk} (h:gp γ w b d):gp γ.give w b d :=
 ⟨h.cD.give,h.bp.imp fun _ ⟨h1,h2⟩=>⟨h1.give,h2.give⟩,fun i hi=>(h.up i hi).imp fun _ ⟨h1,h2⟩=>⟨h1.give,h2.give⟩,fun i hi=>(h.lo i hi).imp fun _ ⟨h1,h2⟩=>⟨h1.give,h2.give⟩⟩
theorem Kept.put {γ0:So} {w0:World} {ad:Addr} {v:Value} (k:Kept γ0 w0 γ w) (h:w0.heap.size≤ad.block):Kept γ0 w0 γ (w.setCell ad v) :=
 ⟨k.shr,k.own,fun b hb hlt=>(heap_setCell_other _ _ _ _ (by omega)).trans (k.blk b hb hlt),by rw[World.size_setCell]; exact k.size,k.env⟩
structure GR (A:Nat→Prop) (B0:Nat) (w0:World) (γ:So) (w:World):Prop where
 lt:∀ b,A b→b<B0
 all:∀ b,A b→γ.all b
 blk:∀ b,A b→w.heap[b]? = w0.heap[b]?
 size:B0≤w.heap.size
 env:w.os=w0.os∧w.output=w0.output
theorem GR.kept {A:Nat→Prop} {B0:Nat} {w0 w':World} {γ':So} (h:GR A B0 w0 γ w) (k:Kept γ w γ' w'):GR A B0 w0 γ' w' :=
 ⟨h.lt,fun b hb=>k.all (h.all b hb),fun b hb=>(k.blk b (h.all b hb) (cH (h.lt b hb) h.size)).trans (h.blk b hb),aS h.size k.size,k.env.1.trans h.env.1,k.env.2.trans h.env.2⟩
theorem GR.give {A:Nat→Prop} {B0:Nat} {w0:World} (h:GR A B0 w0 γ w):GR A B0 w0 γ.give w:=⟨h.lt,fun b hb=>IJ.2 (h.all b hb),h.blk,h.size,h.env⟩
structure Fx (da db:Wk) (b2 b3 b5 b6 cf cl:Nat) (γ:So) (w:World):Prop where
 wa:gp γ w b2 da
 wb:gp γ w b3 db
 f:bE γ w ⟨b5,0,none⟩ (.chan (some cf))
 l:bE γ w ⟨b6,0,none⟩ (.chan (some cl))
theorem Fx.kept {da db:Wk} {b2 b3 b5 b6 cf cl:Nat} {γ':So} {w':World} (h:Fx da db b2 b3 b5 b6 cf cl γ w) (k:Kept γ w γ' w'):Fx da db b2 b3 b5 b6 cf cl γ' w':=⟨h.wa.kept k,h.wb.kept k,k.sees h.f,k.sees h.l⟩
theorem Fx.give {da db:Wk} {b2 b3 b5 b6 cf cl:Nat} (h:Fx da db b2 b3 b5 b6 cf cl γ w):Fx da db b2 b3 b5 b6 cf cl γ.give w:=⟨h.wa.give,h.wb.give,h.f.give,h.l.give⟩
def LK (b2 b3 b5 b6:Nat) (u:Nat→Value):Act :=
 ⟨#[u 0,u 1,.pointer (some ⟨b2,0,none⟩),.pointer (some ⟨b3,0,none⟩),u 4,.pointer (some ⟨b5,0,none⟩),.pointer (some ⟨b6,0,none⟩),u 7,u 8,u 9,u 10,u 11,u 12,u 13,u 14,u 15,u 16,u 17,u 18,u 19,u 20,u 21,u 22,u 23,u 24,u 25,u 26,u 27,u 28,u 29,u 30,u 31,u 32,u 33,u 34],[]⟩
def Hu (b2 b3 b5 b6:Nat) (vl:Value) (nl k:Nat) (u:Nat→Value):Act :=
 ⟨#[u 0,u 1,.pointer (some ⟨b2,0,none⟩),.pointer (some ⟨b3,0,none⟩),u 4,.pointer (some ⟨b5,0,none⟩),.pointer (some ⟨b6,0,none⟩),u 7,u 8,u 9,u 10,u 11,u 12,u 13,u 14,vl,.int .i64 nl,.int .i64 k,u 18,u 19,u 20,u 21,u 22,u 23,u 24,u 25,u 26,u 27,u 28,u 29,u 30,u 31,u 32,u 33,u 34],[]⟩
def afw (b2 b3 b5 b6 cf:Nat) (out:Value) (u:Nat→Value):Act :=
 ⟨#[u 0,u 1,.pointer (some ⟨b2,0,none⟩),.pointer (some ⟨b3,0,none⟩),u 4,.pointer (some ⟨b5,0,none⟩),.pointer (some ⟨b6,0,none⟩),u 7,u 8,out,u 10,u 11,u 12,u 13,u 14,u 15,u 16,u 17,u 18,u 19,u 20,u 21,u 22,u 23,.chan (some cf),u 25,u 26,u 27,u 28,u 29,u 30,u 31,u 32,u 33,u 34],[]⟩
noncomputable def abB:Code:=Tryz.f60.body.getD .skip
noncomputable def qG:Code:=match abB with | .seq _ (.seq _ (.seq _ x))=>x | _ => .skip
noncomputable def acD:Code:=match qG with | .seq x _=>x | _ => .skip
theorem IB {cf cl:Nat} {tv z2:Value} {pM:Bool} {K:Nat} {p:Pc} (todo:List (List Value)):chain cf cl tv z2 pM K p todo ≠ .ret∧chain cf cl tv z2 pM K p todo ≠ .stop:=by cases todo<;>simp[chain]
def afo (da db:Wk) (b2 b3 b5 b6 cf cl:Nat) (K:Nat) (p:Pc) (A:Nat→Prop) (B0:Nat) (w0:World) (γ':Gm) (e:Exit) (a':Act) (w':World):Prop :=
 e = .normal∧γ'.1=chain cf cl (.bool true) (.bool false) false K p []∧GR A B0 w0 γ'.2 w'∧Fx da db b2 b3 b5 b6 cf cl γ'.2 w'∧(∀ b,A b→γ'.2.1 b∨γ'.2.2 b)∧∃ vl nl k u,a'=Hu b2 b3 b5 b6 vl nl k u
set_option maxRecDepth 100000 in
set_option maxHeartbeats 2000000 in
theorem aaK (hP:Plain Tryz.prog) {b2 b3 b5 b6 cf cl:Nat} {da db:Wk} (uv:da.ok) (y7:db.ok) {K:Nat} {p:Pc} {A:Nat→Prop} {B0:Nat} {w0:World} (hS:GR A B0 w0 γ w) (hF:Fx da db b2 b3 b5 b6 cf cl γ w) (u:Nat→Value) :
  KJ (KG Tryz.prog af true) 60 (chain cf cl (.bool true) (.bool false) false K p (da.bp.map fun x=>msgs da db x db.bp),γ) acD (afo da db b2 b3 b5 b6 cf cl K p A B0 w0) (LK b2 b3 b5 b6 u) w:=by
 have C:=zk (af:=af) (main:=true) hP
 have hp:∀ todo,chain cf cl (.bool true) (.bool false) false K p todo ≠ .ret:=fun todo=>(IB todo).1
 obtain⟨v0,Nc,AA,cap,rfl,hA⟩:=hF.wa.bp
 have hI:xZ γ w (.slice AA da.bp.length cap) da.bp:=⟨AA,cap,rfl,hA⟩
 have acg:=uv.few
 unfold LK
 refine aY C (cr C ?_)
 refine av C ?_
 try walk_nrm
 refine av C ?_
 try walk_nrm
 refine jj C (hp _) Nc ?_
 try walk_nrm
 refine av C ?_
 try walk_nrm
 refine av C ?_
 try walk_nrm
 refine aT C ?_
 co_then
 refine gH C ?_
 clear Nc hA
 refine oy C (fun n γ' a w'=>∃ γ3 k,γ'=(chain cf cl (.bool true) (.bool false) false K p ((da.bp.drop k).map fun x=>msgs da db x db.bp),γ3)∧GR A B0 w0 γ3 w'∧Fx da db b2 b3 b5 b6 cf cl γ3 w'∧xZ γ3 w' (.slice AA da.bp.length cap) da.bp∧k≤da.bp.length∧n=da.bp.length-k∧∃ u,a=Hu b2 b3 b5 b6 (.slice AA da.bp.length cap) da.bp.length k u) (n:=da.bp.length) ⟨γ,0,rfl,hS,hF,hI,by omega,by omega,oG rfl⟩ ?_
 clear hS hF hI
 rintro n γ' a w' ⟨γ3,k,hγ,hS,hF,hI,hk,hn,u,Dc⟩
 subst hγ
 unfold Hu at Dc
 subst Dc
 refine aY C (cr C ?_)
 by_cases hlt:k<da.bp.length
 ·have Zd:decide ((k:Int)<(da.bp.length:Int))=true:=by simpa using hlt
  obtain⟨x,hx⟩:∃ x,da.bp[k]? = some x:=⟨_,bH hlt⟩
  have hxb:=uv.bp k x hx
  obtain⟨ad,rfl,hsA⟩:∃ ad,AA=some ad∧bE γ3 w' (ad.add k) (.int .i64 x):=by
   obtain⟨A2,rS,he,h2⟩:=hI
   cases he
   exact h2 k x hx
  have QF:da.bp.drop k=x::da.bp.drop (k+1):=by
   rw[nL hlt]
   congr 1
   exact cA ((bH hlt).symm.trans hx)
  have hw5:IntKind.i64.wrap ((k:Int)+1)=(k:Int)+1:=by rw[vn]<;>omega
  refine av C ?_
  try walk_nrm
  refine aT C ?_
  co_then
  refine aY C (dx C (t:=true) rfl ?_)
  simp only[if_true]
  refine ki C ?_
  co_then
  refine aY C (gH C (aY C (cr C ?_)))
  refine av C ?_
  try walk_nrm
  refine jj C (hp _) hsA ?_
  try walk_nrm
  refine pF C (hp _) (ob := ?ob9) rfl (by rfl) (fun w=>run_eq_of fun K hK => ?r9) (fun w => ?e9) ?h9
  case r9=>go_simp; exact hK
  case e9=>simp[go_sem]
  intro w5 UJ
  try walk_nrm
  have Lg:=(Kept.rely UJ).trans (Kept.alloc γ3 w5 w5.heap.size (.cells #[.int .i64 0] 3))
  have YU:(w5.alloc (.cells #[.int .i64 0] 3)).frozen? ⟨w5.heap.size,0,none⟩=false:=World.frozen?_alloc_new _ _ _ _
  have Y0:bE _ _ ⟨w5.heap.size,0,none⟩ (.int .i64 0):=bE.fresh (γ:=γ3) (w:=w5) (cs:=#[.int .i64 0]) (t:=3) rfl rfl
  have Pm:(γ3.more w5.heap.size).2 w5.heap.size := .inr rfl
  have JL:w'.heap.size≤w5.heap.size:=UJ.1
  generalize w5.alloc (.cells #[.int .i64 0] 3)=w6 at *
  generalize γ3.more w5.heap.size=γ6 at *
  generalize w5.heap.size=b8 at *
  clear hsA UJ
  refine J6 C (hp _) (ad:=⟨b8,0,none⟩) (v := .int .i64 x) rfl (by rfl) Pm (fun w₁ h₁=>⟨?_,?_⟩) ?_
  ·have hc:=(Y0.rely h₁).2
   have hz:w₁.frozen? ⟨b8,0,none⟩=false:=(World.frozen?_of_block (h₁.2.1 b8 (.inr Pm))).trans YU
   refine(?_:∀ K:Result Next→Prop,K (.ok .skip (w₁.setCell ⟨b8,0,none⟩ (.int .i64 x)))→K _) (· = _) rfl
   intro K hK
   go_simp
   try (unfold stored; go_simp)
   exact hK
  ·have hc:=(Y0.rely h₁).2
   have hz:w₁.frozen? ⟨b8,0,none⟩=false:=(World.frozen?_of_block (h₁.2.1 b8 (.inr Pm))).trans YU
   intro e he
   simp[go_sem,hc,hz] at he
   exact he
  intro w7 r7
  try walk_nrm
  have Ut:=(Lg.trans (Kept.rely r7)).put (ad:=⟨b8,0,none⟩) (v := .int .i64 x) JL
  have hx7:bE γ6 (w7.setCell ⟨b8,0,none⟩ (.int .i64 x)) ⟨b8,0,none⟩ (.int .i64 x):=⟨.inr Pm,World.cell?_setCell_same _ _ _ (Y0.rely r7).2⟩
  generalize w7.setCell ⟨b8,0,none⟩ (.int .i64 x)=w8 at *
  clear Y0 YU r7 Lg JL
  have hF8:=hF.kept Ut
  have hS8:=hS.kept Ut
  have hI8:=Ut.EU hI
  clear hF hS hI Ut
  refine aT C ?_
  co_then
  refine cr C ?_
  refine dQ C (v := ?v10) rfl (by rfl) (fun w=>run_eq_of fun K hK => ?r10) (fun w => ?e10) ?x6
  case r10=>go_simp; exact hK
  case e10=>simp[go_sem,Instr.makeFunc]
  try walk_nrm
  rw[QF,bQ]
  show KO _ _ (Pc.go (wk cf cl (.bool true) (msgs da db x db.bp)) (chain cf cl (.bool true) (.bool false) false K p ((da.bp.drop (k+1)).map fun x=>msgs da db x db.bp)),γ6) _ _ _ _ _
  refine Yp (d:=call84 b3 b2 b8 b5 b6) (f := .func 102) (cap:=#[.pointer (some ⟨b3,0,none⟩),.pointer (some ⟨b2,0,none⟩),.pointer (some ⟨b8,0,none⟩),.pointer (some ⟨b5,0,none⟩),.pointer (some ⟨b6,0,none⟩)]) rfl (by rfl) (fun w => ?_) (fun w => ?_) rfl (IB _).2 (fun _=>hp _) (fun w9 r9 w10 r10 => ?_) (fun w9 r9 w10 r10 => ?_)
  ·simp[execOp,resolve,Act.eval,call84,Deferred.ofValue]
  ·simp[execOp,resolve,Act.eval,Deferred.ofValue]
  ·have hk:=(Kept.rely r9)
   have pK:=(Kept.rely r10)
   have Ni:=((hF8.kept hk).give).kept pK
   exact NI hP uv y7 hxb.1 (by omega) Ni.wa Ni.wb (pK.sees (hk.sees hx7).give) Ni.f Ni.l
  have Ni:=((hF8.kept (Kept.rely r9)).give).kept (Kept.rely r10)
  have hS9:=((hS8.kept (Kept.rely r9)).give).kept (Kept.rely r10)
  have hI9:=(Kept.rely r10).EU ((Kept.rely r9).EU hI8).give
  clear hF8 hS8 hI8 hx7
  try walk_nrm
  refine aT C ?_
  co_then
  refine cr C ?_
  refine av C ?_
  try walk_nrm
  refine av C ?_
  try walk_nrm
  refine aT C (eB ?_)
  exact⟨da.bp.length-(k+1),by omega,_,k+1,rfl,hS9,Ni,hI9,by omega,rfl,oG rfl⟩
 ·have Lf:k=da.bp.length:=by omega
  subst Lf
  have Zd:decide ((da.bp.length:Int)<(da.bp.length:Int))=false:=by simp
  simp only[List.drop_length,fK]
  refine av C ?_
  try walk_nrm
  refine aT C ?_
  co_then
  refine aY C (dx C (t:=false) rfl ?_)
  simp only[aF,if_false]
  refine nD C ?_
  co_then
  exact⟨rfl,rfl,hS,hF,hS.all,_,_,_,oG (F:=fun u=>Hu b2 b3 b5 b6 (.slice AA da.bp.length cap) da.bp.length da.bp.length u) rfl⟩
end Go.Co
end
section
namespace Go.Co
open Go Go.Conc Go.Proofs
open Classical
variable {P:Program} {af:Machine→Trace→Prop} {main:Bool} {K:Gm→Goroutine→World→Prop} {fn:FuncId} {p:Pc} {γ:So} {Q:Gm→Exit→Act→World→Prop} {a:Act} {w:World} {ops:Array Oper} {i:Nat} {rest:List Nat} {o:Oper}
theorem WY (C:KC P main K Az E1) (hp:p ≠ .ret) {b:Nat} {x y z:Value} (ho:ops[i]? = some o) (hw:Region.wanted o (yielded ops a.tmps)=true) (hO:γ.2 b)
  (hrun:∀ w₁,jd γ w w₁→(execOp a.eval o).run P w₁ = .ok .skip (((w₁.setCell ⟨b,0,none⟩ x).setCell ⟨b,1,none⟩ y).setCell ⟨b,2,none⟩ z)∧∀ e∈(execOp a.eval o).events P w₁ #[],∃ j,e=⟨.cell ⟨b,j,none⟩,true,false⟩)
  (h:∀ w₁,jd γ w w₁→KO K fn (p,γ) ops rest Q (a.put o.dst undef) (((w₁.setCell ⟨b,0,none⟩ x).setCell ⟨b,1,none⟩ y).setCell ⟨b,2,none⟩ z)):KO K fn (p,γ) ops (i::rest) Q a w :=
 xh C ho hw fun w₁ r=>by
  obtain⟨h1,h2⟩:=hrun w₁ (UK hp r)
  rw[h1]
  have hsz:(((w₁.setCell ⟨b,0,none⟩ x).setCell ⟨b,1,none⟩ y).setCell ⟨b,2,none⟩ z).heap.size=w₁.heap.size:=by rw[World.size_setCell,World.size_setCell,World.size_setCell]
  refine⟨(p,γ),stg hp ⟨rfl,fun c=>⟨.inl,fun h=>h.elim id fun h=>absurd h.2 (by omega)⟩,by omega,fun c _ hn => ?_,rfl,rfl,rfl,fun e he => ?_⟩,h w₁ (UK hp r)⟩
  ·have hne:c≠b:=fun e=>hn (e▸hO)
   rw[heap_setCell_other _ _ _ _ hne,heap_setCell_other _ _ _ _ hne,heap_setCell_other _ _ _ _ hne]
  ·obtain⟨j,rfl⟩:=h2 e (mem_listed he)
   exact .inl ⟨_,true,false,rfl,fun _=>hO,.inr hO⟩
theorem GR.append {A:Nat→Prop} {B0:Nat} {w0 w':World} {γ':So} {v:Value} (h:GR A B0 w0 γ w) (h1:γ'.1=γ.1) (h2:∀ b,γ.2 b→γ'.2 b) (h3:w.heap.size≤w'.heap.size)
  (h4:∀ b,γ.all b→b<w.heap.size→some b≠v.ownBlock→w'.heap[b]? = w.heap[b]?) (h5:w'.os=w.os∧w'.output=w.output) (hb:∀ b,v.ownBlock=some b→B0≤b):GR A B0 w0 γ' w' :=
 ⟨h.lt,fun b hlt=>(h.all b hlt).imp (by rw[h1]; exact id) (h2 b),fun b hlt=>(h4 b (h.all b hlt) (cH (h.lt b hlt) h.size) fun e=>by have:=hb b e.symm; have:=h.lt b hlt; omega).trans (h.blk b hlt),aS h.size h3,h5.1.trans h.env.1,h5.2.trans h.env.2⟩
abbrev Sm:=Int×Int×Int
def ur (m:Sm):Value:=za m.1 m.2.1 m.2.2
def qy (m:Sm):List Value:=[.int .i64 m.1,.int .i64 m.2.1,.int .i64 m.2.2]
theorem Gy {id:Nat} {R:Exit→Act→World→Prop} (h:R .normal a w):Exit.inBlock id R .normal a w:=h
theorem FO (l:List Sm):(l.flatMap qy).length=l.length*3:=by
 induction l with
 | nil=>rfl
 | cons m l ih=>simp only[fM,b9,ih,qy,List.length_cons,List.length_nil]; omega
theorem Wd {m m':Sm} (h:ur m=ur m'):m=m':=by
 obtain⟨a,b,c⟩:=m
 obtain⟨a',b',c'⟩:=m'
 simp[ur,za] at h
 obtain⟨rfl,rfl,rfl⟩:=h
 rfl
theorem EH (m:Sm):∀ l:List Sm,(l.map ur).erase (ur m)=(l.erase m).map ur
 | []=>rfl
 | a::l=>by
  rw[bQ,List.erase_cons,List.erase_cons]
  by_cases h:a=m
  ·subst h; simp
  ·have h2:¬ ur a=ur m:=fun e=>h (Wd e)
   simp[h,h2,EH m l]
theorem Xk (cf:Nat) (z:Value):Ay cf z [] = .recv cf true z fun x=>match x with | some _ => .bad | none => .ret:=rfl
theorem TW (cf:Nat) (z v0:Value) (vs:List Value):Ay cf z (v0::vs) = .recv cf true z fun x=>match x with | some v=>if v∈v0::vs then Ay cf z ((v0::vs).erase v) else .bad | none => .bad:=by
 unfold Ay
 show Pc.recv cf true z (fun x=>match x with | some v=>if v∈v0::vs then VA cf z vs.length ((v0::vs).erase v) else .bad | none => .bad)=_
 congr 1
 funext x
 cases x with
 | none=>rfl
 | some v =>
  simp only
  split
  ·rename_i h
   rw[List.length_erase_of_mem h]
   rfl
  ·rfl
def QL (out:Value) (u:Nat→Value):Act :=
 ⟨#[u 0,u 1,u 2,u 3,u 4,u 5,u 6,u 7,u 8,out,u 10,u 11,u 12,u 13,u 14,u 15,u 16,u 17,u 18,u 19,u 20,u 21,u 22,u 23,u 24,u 25,u 26,u 27,u 28,u 29,u 30,u 31,u 32,u 33,u 34],[]⟩
def LM (cf:Nat) (out:Value) (u:Nat→Value):Act :=
 ⟨#[u 0,u 1,u 2,u 3,u 4,u 5,u 6,u 7,u 8,out,u 10,u 11,u 12,u 13,u 14,u 15,u 16,u 17,u 18,u 19,u 20,u 21,u 22,u 23,.chan (some cf),u 25,u 26,u 27,u 28,u 29,u 30,u 31,u 32,u 33,u 34],[]⟩
def aac (A:Nat→Prop) (B0:Nat) (w0:World) (R:List Sm) (γ':Gm) (e:Exit) (a':Act) (w':World):Prop :=
 e = .normal∧γ'.1 = .ret∧GR A B0 w0 γ'.2 w'∧∃ (got:List Sm) (out:Value),got.Perm R∧w'.ownsRow B0 79 3 out got.length (got.flatMap qy)∧∃ u,a'=QL out u
noncomputable def QW:Code:=match qG with | .seq _ (.seq _ (.seq _ (.seq (.seq _ x) _)))=>x | _ => .skip
set_option maxRecDepth 100000 in
set_option maxHeartbeats 2000000 in
theorem TU (hP:Plain Tryz.prog) {cf:Nat} {A:Nat→Prop} {B0:Nat} {w0:World} {R:List Sm} (hR:R.length≤4294967296) (hS:GR A B0 w0 γ w) (u:Nat→Value) :
  KJ (KG Tryz.prog af true) 60 (Ay cf (.agg #[.int .i64 0,.int .i64 0,.int .i64 0]) (R.map ur),γ) QW (aac A B0 w0 R) (LM cf (.slice none 0 0) u) w:=by
 have C:=zk (af:=af) (main:=true) hP
 obtain⟨i0,A5,GK,O9,hz2⟩:=info_parts J8
 have hzv:∀ w,(zeroValue 79).run Tryz.prog w = .ok (.agg #[.int .i64 0,.int .i64 0,.int .i64 0]) w:=fun w=>by simp[zeroValue,typeInfo,A5,GK]
 have hze:∀ w es,(zeroValue 79).events Tryz.prog w es=es:=fun w es=>by simp[zeroValue,typeInfo,A5,GK]
 have hrun:∀ (T:Act) (o:Oper) (w:World),o.op = .recv 136 (.tmp 24) true→T.eval (.tmp 24) = .chan (some cf)→(execOp T.eval o).run Tryz.prog w = .ok (.comm #[rcase cf (.agg #[.int .i64 0,.int .i64 0,.int .i64 0])] true (.recv true)) w:=by
  intro T o w ho hT
  simp[execOp,ho,run_underlying Tryz.underlying136,hzv,rcase,hT]
 have tC:∀ (T:Act) (o:Oper) (w:World),o.op = .recv 136 (.tmp 24) true→(execOp T.eval o).events Tryz.prog w #[]=#[]:=by
  intro T o w ho
  simp[execOp,ho,run_underlying Tryz.underlying136,hze]
 refine gH C ?_
 refine oy C (fun n γ' a w'=>∃ (γ3:So) (rem got:List Sm) (out:Value),γ'=(Ay cf (.agg #[.int .i64 0,.int .i64 0,.int .i64 0]) (rem.map ur),γ3)∧GR A B0 w0 γ3 w'∧kQ γ3 w' B0 79 3 out got.length (got.flatMap qy)∧(got++rem).Perm R∧n=rem.length∧∃ u,a=LM cf out u) (n:=R.length) ⟨γ,R,[],.slice none 0 0,rfl,hS,kQ.nil _ _ _,by simp,rfl,u,rfl⟩ ?_
 clear hS
 rintro n γ' a w' ⟨γ3,rem,got,out,hγ,hS,fD,QB,hn,u,Dc⟩
 subst hγ
 unfold LM at Dc
 subst Dc
 have hlen:got.length+rem.length≤4294967296:=by
  have h1:=QB.length_eq
  rw[b9] at h1
  omega
 refine aY C (cr C ?_)
 cases rem with
 | nil =>
  simp only[fK]
  rw[Xk]
  refine F5 rfl (by rfl) (fun w=>hrun _ _ w rfl rfl) (fun w=>tC _ _ w rfl) (fun x=>by cases x<;>simp) (fun h=>by cases h) (fun x w7 r7 => ?_)
  cases x with
  | some v=>exact Fy
  | none =>
   have hS7:=hS.kept (Kept.rely r7)
   have D1:=fD.rely r7
   simp only[Option.getD_none,Option.isSome_none,recvd]
   try walk_nrm
   refine av C ?_
   try walk_nrm
   refine aT C ?_
   co_then
   refine aY C (dx C (t:=false) rfl ?_)
   simp only[aF,if_false]
   refine nD C ?_
   co_then
   exact⟨rfl,rfl,hS7,got,out,by simpa using QB,D1.1,oG (F:=fun u=>QL out u) rfl⟩
 | cons m0 ms =>
  simp only[bQ]
  rw[TW]
  refine F5 rfl (by rfl) (fun w=>hrun _ _ w rfl rfl) (fun w=>tC _ _ w rfl) (fun x => ?_) (fun h=>by cases h) (fun x w7 r7 => ?_)
  ·cases x with
   | none=>simp
   | some v =>
    simp only
    split
    ·obtain⟨q,hq⟩:=uk (cf:=cf) (z := .agg #[.int .i64 0,.int .i64 0,.int .i64 0]) ((ur m0::ms.map ur).erase v)
     rw[hq]; simp
    ·simp
  cases x with
  | none=>exact Fy
  | some v =>
   simp only
   by_cases hv:v∈ur m0::ms.map ur
   ·rw[if_pos hv]
    obtain⟨m,hm,rfl⟩:∃ m,m∈m0::ms∧ur m=v:=by
     have:v∈(m0::ms).map ur:=hv
     exact cR.1 this
    have aeG:(ur m0::ms.map ur).erase (ur m)=((m0::ms).erase m).map ur:=EH m (m0::ms)
    rw[aeG]
    have hp2:=List.perm_cons_erase hm
    have Bt:=List.length_erase_of_mem hm
    generalize (m0::ms).erase m=Vi at *
    obtain⟨x,y,s⟩:=m
    have hp:Ay cf (.agg #[.int .i64 0,.int .i64 0,.int .i64 0]) (Vi.map ur) ≠ .ret:=by
     obtain⟨q,hq⟩:=uk (cf:=cf) (z := .agg #[.int .i64 0,.int .i64 0,.int .i64 0]) (Vi.map ur)
     rw[hq]; simp
    have hS7:=hS.kept (Kept.rely r7)
    have D1:=fD.rely r7
    clear hS fD
    simp only[Option.getD_some,Option.isSome_some,recvd,ur,za]
    try walk_nrm
    refine av C ?_
    try walk_nrm
    refine aT C ?_
    co_then
    refine aY C (dx C (t:=true) rfl ?_)
    simp only[if_true]
    refine ki C ?_
    co_then
    refine gH C (aY C (cr C ?_))
    refine av C ?_
    try walk_nrm
    refine pF C hp (ob := ?ob4) rfl (by rfl) (fun w=>run_eq_of fun K hK => ?r4) (fun w => ?e4) ?h4
    case r4=>go_simp; exact hK
    case e4=>simp[go_sem]
    intro w5 UJ
    try walk_nrm
    have Lg:=(Kept.rely UJ).trans (Kept.alloc γ3 w5 w5.heap.size (.cells #[.int .i64 0,.int .i64 0,.int .i64 0] 79))
    have YU:∀ j,(w5.alloc (.cells #[.int .i64 0,.int .i64 0,.int .i64 0] 79)).frozen? ⟨w5.heap.size,j,none⟩=false:=fun j=>World.frozen?_alloc_new _ _ _ _
    have h50:bE _ _ ⟨w5.heap.size,0,none⟩ (.int .i64 0):=bE.fresh (γ:=γ3) (w:=w5) (cs:=#[.int .i64 0,.int .i64 0,.int .i64 0]) (t:=79) rfl rfl
    have h51:bE _ _ ⟨w5.heap.size,1,none⟩ (.int .i64 0):=bE.fresh (γ:=γ3) (w:=w5) (cs:=#[.int .i64 0,.int .i64 0,.int .i64 0]) (t:=79) rfl rfl
    have h52:bE _ _ ⟨w5.heap.size,2,none⟩ (.int .i64 0):=bE.fresh (γ:=γ3) (w:=w5) (cs:=#[.int .i64 0,.int .i64 0,.int .i64 0]) (t:=79) rfl rfl
    have Pm:(γ3.more w5.heap.size).2 w5.heap.size := .inr rfl
    have JL:w7.heap.size≤w5.heap.size:=UJ.1
    generalize w5.alloc (.cells #[.int .i64 0,.int .i64 0,.int .i64 0] 79)=w6 at *
    generalize γ3.more w5.heap.size=γ6 at *
    generalize w5.heap.size=b8 at *
    clear UJ
    refine WY C hp (b:=b8) (x := .int .i64 x) (y := .int .i64 y) (z := .int .i64 s) rfl (by rfl) Pm (fun w₁ h₁=>⟨?_,?_⟩) ?_
    ·have hc0:=(h50.rely h₁).2
     have GB:=(h51.rely h₁).2
     have x5:=(h52.rely h₁).2
     have hz:∀ j,w₁.frozen? ⟨b8,j,none⟩=false:=fun j=>(World.frozen?_of_block (h₁.2.1 b8 (.inr Pm))).trans (YU j)
     refine(?_:∀ K:Result Next→Prop,K (.ok .skip (((w₁.setCell ⟨b8,0,none⟩ (.int .i64 x)).setCell ⟨b8,1,none⟩ (.int .i64 y)).setCell ⟨b8,2,none⟩ (.int .i64 s)))→K _) (· = _) rfl
     intro K hK
     go_simp
     try (unfold stored; go_simp)
     exact hK
    ·have hc0:=(h50.rely h₁).2
     have GB:=(h51.rely h₁).2
     have x5:=(h52.rely h₁).2
     have hz:∀ j,w₁.frozen? ⟨b8,j,none⟩=false:=fun j=>(World.frozen?_of_block (h₁.2.1 b8 (.inr Pm))).trans (YU j)
     intro e he
     simp[go_sem,hc0,GB,x5,hz] at he
     rcases he with rfl | rfl | rfl
     ·exact⟨0,rfl⟩
     ·exact⟨1,rfl⟩
     ·exact⟨2,rfl⟩
    intro w9 r9
    try walk_nrm
    have hk9:=(((Lg.trans (Kept.rely r9)).put (ad:=⟨b8,0,none⟩) (v := .int .i64 x) JL).put (ad:=⟨b8,1,none⟩) (v := .int .i64 y) JL).put (ad:=⟨b8,2,none⟩) (v := .int .i64 s) JL
    have s0:bE γ6 (((w9.setCell ⟨b8,0,none⟩ (.int .i64 x)).setCell ⟨b8,1,none⟩ (.int .i64 y)).setCell ⟨b8,2,none⟩ (.int .i64 s)) ⟨b8,0,none⟩ (.int .i64 x) :=
     bE.put (bE.put ⟨.inr Pm,World.cell?_setCell_same _ _ _ (h50.rely r9).2⟩ (by simp)) (by simp)
    have s1:bE γ6 (((w9.setCell ⟨b8,0,none⟩ (.int .i64 x)).setCell ⟨b8,1,none⟩ (.int .i64 y)).setCell ⟨b8,2,none⟩ (.int .i64 s)) ⟨b8,1,none⟩ (.int .i64 y) :=
     bE.put ⟨.inr Pm,World.cell?_setCell_same _ _ _ ((h51.rely r9).put (by simp)).2⟩ (by simp)
    have s2:bE γ6 (((w9.setCell ⟨b8,0,none⟩ (.int .i64 x)).setCell ⟨b8,1,none⟩ (.int .i64 y)).setCell ⟨b8,2,none⟩ (.int .i64 s)) ⟨b8,2,none⟩ (.int .i64 s) :=
     ⟨.inr Pm,World.cell?_setCell_same _ _ _ (((h52.rely r9).put (by simp)).put (by simp)).2⟩
    generalize ((w9.setCell ⟨b8,0,none⟩ (.int .i64 x)).setCell ⟨b8,1,none⟩ (.int .i64 y)).setCell ⟨b8,2,none⟩ (.int .i64 s)=w10 at *
    have acn:=hS7.kept hk9
    have RA:=D1.kept hk9
    clear hk9 Lg h50 h51 h52 YU r9 JL hS7 D1 Pm
    refine aT C ?_
    co_then
    refine cr C ?_
    refine av C ?_
    try walk_nrm
    refine pE C hp (v := ?v6) rfl (by rfl) (fun w₁ h₁=>⟨run_eq_of fun K hK => ?r6,?e6⟩) ?h6
    case r6=>have hc0:=(bE.rely s0 h₁).2; have GB:=(bE.rely s1 h₁).2; have x5:=(bE.rely s2 h₁).2; go_simp; exact hK
    case e6 =>
     have hc0:=(bE.rely s0 h₁).2
     have GB:=(bE.rely s1 h₁).2
     have x5:=(bE.rely s2 h₁).2
     intro e he
     simp[go_sem,hc0,GB,x5] at he
     rcases he with rfl | rfl | rfl
     ·exact(bE.rely s0 h₁).GD
     ·exact(bE.rely s1 h₁).GD
     ·exact(bE.rely s2 h₁).GD
    try walk_nrm
    refine Ru C hp (ob := ?ob7) (n:=1) rfl (by rfl) (fun w=>run_eq_of fun K hK => ?r7) (fun w => ?e7) ?h7
    case r7=>go_simp; exact hK
    case e7=>simp[go_sem]
    intro Pt aei
    try walk_nrm
    have ZR:=(Kept.rely aei).trans (Kept.alloc γ6 Pt Pt.heap.size (.cells #[.int .i64 x,.int .i64 y,.int .i64 s] 79))
    have aeL:∀ (j:Nat) (u:Value),(qy (x,y,s))[j]? = some u→bE (γ6.more Pt.heap.size) (Pt.alloc (.cells #[.int .i64 x,.int .i64 y,.int .i64 s] 79)) ((⟨Pt.heap.size,0,none⟩:Addr).add j) u:=by
     intro j u hu
     rw[Addr.add_lit]
     simp only[gy]
     refine bE.fresh (γ:=γ6) (w:=Pt) rfl ?_
     simpa [qy] using hu
    have acm:=acn.kept ZR
    have Rz:=RA.kept ZR
    have abr:(γ6.more Pt.heap.size).all Pt.heap.size := .inr (.inr rfl)
    generalize Pt.alloc (.cells #[.int .i64 x,.int .i64 y,.int .i64 s] 79)=w12 at *
    generalize γ6.more Pt.heap.size=γ12 at *
    generalize Pt.heap.size=b12 at *
    clear acn RA s0 s1 s2 ZR
    have yZ:=FO got
    refine Ex C hp (B:=B0) (news:=qy (x,y,s)) (m:=1) (c:=1) (ad:=⟨b12,0,none⟩) (n:=got.length) (xs:=got.flatMap qy) (v:=out) rfl (by rfl) rfl Tryz.underlying34 A5 GK O9 hz2 rfl (by decide) rfl rfl acm.size Rz rfl aeL abr (by simp[qy,Value.oneCell']) (by simp only[maxLen]; omega) (by omega) ?_
    intro v13 w13 γ13 hg1 UT hg3 hg4 hg5 abm
    have ae8:=acm.append hg1 UT hg3 hg4 hg5 (v:=out) (fun b hb=>(Rz.1.lt b hb).1)
    try walk_nrm
    refine av C ?_
    try walk_nrm
    refine aT C (Gy (eB ?_))
    refine⟨Vi.length,by simp only[List.length_cons] at Bt hn; omega,γ13,Vi,got++[(x,y,s)],v13,rfl,ae8,?_,?_,rfl,oG rfl⟩
    ·rw[b9,List.flatMap_append]
     simpa using abm
    ·rw[gD]
     exact(List.Perm.append_left got hp2.symm).trans QB
   ·rw[if_neg hv]
    exact Fy
end Go.Co
end
section
namespace Go.Co
open Go Go.Conc Go.Proofs
open Classical
variable {P:Program} {af:Machine→Trace→Prop} {γ:So} {w:World}
noncomputable def FG:Code:=match qG with | .seq _ (.seq _ (.seq _ (.seq _ x)))=>x | _ => .skip
noncomputable def adW:Code:=match qG with | .seq _ (.seq x _)=>x | _ => .skip
noncomputable def adV:Code:=match qG with | .seq _ (.seq _ (.seq x _))=>x | _ => .skip
noncomputable def abJ:Code:=match qG with | .seq _ (.seq _ (.seq _ (.seq (.seq x _) _)))=>x | _ => .skip
def dH (da db:Wk):List Sm:=da.bp.flatMap fun x=>db.bp.flatMap fun y=>(gr da db x y).map fun s=>(x,y,s)
theorem MA (da db:Wk) (x:Int):∀ ys:List Int,msgs da db x ys=(ys.flatMap fun y=>(gr da db x y).map fun s=>(x,y,s)).map ur
 | []=>rfl
 | y::ys=>by
  rw[Ep,MA da db x ys,fM,gm,List.map_map]
  rfl
theorem Xb (da db:Wk):(da.bp.map fun x=>msgs da db x db.bp).flatten=(dH da db).map ur:=by
 unfold dH
 induction da.bp with
 | nil=>rfl
 | cons x l ih=>rw[bQ,List.flatten_cons,ih,fM,gm,MA]
theorem tg {α β:Type} (f:α→List β) (c:Nat):∀ l:List α,(∀ x∈l,(f x).length≤c)→(l.flatMap f).length≤l.length*c
 | [],_=>by simp
 | a::l,h=>by
  have h1:=h a (by simp)
  have h2:=tg f c l fun x hx=>h x (by simp[hx])
  rw[fM,b9,List.length_cons,jL]
  omega
theorem Cy {da db:Wk} (uv:da.ok) (y7:db.ok):(dH da db).length≤4294967296:=by
 have h1:∀ x∈da.bp,(db.bp.flatMap fun y=>(gr da db x y).map fun s=>(x,y,s)).length≤1000*2001:=by
  intro x _
  refine aS (tg _ 2001 _ fun y _ => ?_) (eU _ y7.few)
  rw[eT]
  have h2:=(y7.up y.toNat).1
  have h3:=(uv.lo x.toNat).1
  exact aS (FQ _ _ _ _) (by omega)
 have h4:=tg _ _ _ h1
 have h5:=eU (1000*2001) uv.few
 unfold dH
 omega
set_option maxRecDepth 100000 in
set_option maxHeartbeats 1000000 in
theorem WC (hP:Plain Tryz.prog) {b2 b3 b5 b6 cf cl:Nat} {da db:Wk} (uv:da.ok) (y7:db.ok) {A:Nat→Prop} {B0:Nat} {w0:World} (hS:GR A B0 w0 γ w) (hF:Fx da db b2 b3 b5 b6 cf cl γ w) (u:Nat→Value) {Qf:Exit→Act→World→Prop}
  (hT:∀ γ' a' w',aac A B0 w0 (dH da db) (.ret,γ') .normal a' w'→KJ (iz Tryz.prog af) 60 () FG (fun _=>Qf) a' w') :
  KJ (KG Tryz.prog af true) 60 (chain cf cl (.bool true) (.bool false) false da.bp.length (Ay cf (.agg #[.int .i64 0,.int .i64 0,.int .i64 0]) ((dH da db).map ur)) (da.bp.map fun x=>msgs da db x db.bp),γ) qG (fun γ' e a' w'=>γ'.1 = .ret∧Qf e a' w') (LK b2 b3 b5 b6 u) w:=by
 have C:=zk (af:=af) (main:=true) hP
 have ZV:Ay cf (.agg #[.int .i64 0,.int .i64 0,.int .i64 0]) ((dH da db).map ur) ≠ .ret∧Ay cf (.agg #[.int .i64 0,.int .i64 0,.int .i64 0]) ((dH da db).map ur) ≠ .stop:=by
  obtain⟨q,hq⟩:=uk (cf:=cf) (z := .agg #[.int .i64 0,.int .i64 0,.int .i64 0]) ((dH da db).map ur)
  rw[hq]; simp
 generalize Nd:Ay cf (.agg #[.int .i64 0,.int .i64 0,.int .i64 0]) ((dH da db).map ur)=pc at *
 show KJ _ _ _ (.seq acD (.seq adW (.seq adV (.seq (.seq abJ QW) FG)))) _ _ _
 refine aY C (xk (aaK hP uv y7 hS hF u) ?_)
 rintro⟨p',γ'⟩ e a' w' ⟨rfl,rE,Ax,hF',-,vl,nl,k,u',rfl⟩
 simp only at rE Ax hF'
 subst rE
 unfold Hu
 refine aY C (cr C ?_)
 refine dQ C (v := ?v1) rfl (by rfl) (fun w=>run_eq_of fun K hK => ?r1) (fun w => ?e1) ?h1
 case r1=>go_simp; exact hK
 case e1=>simp[go_sem,Instr.makeFunc]
 try walk_nrm
 show KO _ _ (Pc.go (GF cf cl (.bool false) false da.bp.length) pc,γ') _ _ _ _ _
 refine Yp (d:=call85 b2 b6 b5) (f := .func 104) (cap:=#[.pointer (some ⟨b2,0,none⟩),.pointer (some ⟨b6,0,none⟩),.pointer (some ⟨b5,0,none⟩)]) rfl (by rfl) (fun w => ?_) (fun w => ?_) rfl ZV.2 (fun _=>ZV.1) (fun w9 r9 w10 r10 => ?_) (fun w9 r9 w10 r10 => ?_)
 ·simp[execOp,resolve,Act.eval,call85,Deferred.ofValue]
 ·simp[execOp,resolve,Act.eval,Deferred.ofValue]
 ·have Ni:=((hF'.kept (Kept.rely r9)).give).kept (Kept.rely r10)
  exact OX hP uv Ni.wa Ni.f Ni.l
 have Ni:=((hF'.kept (Kept.rely r9)).give).kept (Kept.rely r10)
 have hS9:=((Ax.kept (Kept.rely r9)).give).kept (Kept.rely r10)
 have hf9:=Ni.f
 clear hF' Ax Ni
 try walk_nrm
 refine aT C ?_
 co_then
 refine aY C (cr C ?_)
 refine av C ?_
 try walk_nrm
 refine aT C ?_
 co_then
 refine aY C (aY C (cr C ?_))
 refine pE C ZV.1 (v := ?v21) rfl (by rfl) (fun w₁ h₁=>⟨run_eq_of fun K hK => ?r21,?e21⟩) ?h21
 case r21=>have hc:=(bE.rely hf9 h₁).2; go_simp; exact hK
 case e21=>have hc:=(bE.rely hf9 h₁).2; intro e he; simp[go_sem,hc] at he; subst he; exact(bE.rely hf9 h₁).GD
 try walk_nrm
 refine aT C ?_
 co_then
 subst Nd
 refine(?_:∀ a',(∃ u,a'=LM cf (.slice none 0 0) u)→KJ _ _ _ QW _ a' _) _ (oG rfl)
 rintro a' ⟨u2,rfl⟩
 refine xk (TU hP (Cy uv y7) hS9 u2) ?_
 rintro⟨p3,γ3⟩ e a3 w3 hE
 have he:=hE.1
 have hp3:=hE.2.1
 simp only at hp3
 subst he
 subst hp3
 refine(?_:KJ (KG Tryz.prog af true) 60 (.ret,γ3) FG (fun γ' e a' w'=>γ'.1 = .ret∧Qf e a' w') a3 w3)
 exact Tx (xk (hT γ3 a3 w3 hE) fun _ e a w q=>⟨rfl,q⟩)
end Go.Co
end
section
namespace Go.Co
open Go Go.Conc Go.Proofs
open Classical
variable {P:Program} {af:Machine→Trace→Prop} {γ:So} {w:World}
theorem adg {fn:FuncId} {c:Code} {a:Act} {Q:Gm→Exit→Act→World→Prop} (h:∀ w1,jd γ w w1→KJ (iz P af) fn () c (fun _ e a w'=>∃ γ',Q (.bad,γ') e a w') a w1):KJ (NC P af) fn (.bad,γ) c Q a w:=by
 intro b k cs hb hk hc _ w1 r
 refine h w1 r b k cs hb hk fun _ e a' w' q => ?_
 obtain⟨γ',q⟩:=q
 have h:=hc _ _ _ _ q
 cases e with
 | normal=>exact h rfl w' (iM _ _)
 | exit id =>
  obtain⟨k',h1,h2⟩:=h
  exact⟨k',h1,h2 rfl w' (iM _ _)⟩
 | ret=>exact fun todo=>h todo rfl w' (iM _ _)
 | goto l=>exact h
 | panic ch=>exact h
 | outgrown=>exact h
structure uX (γ:So) (w:World) (cs:Array Value) (d:Wk):Prop where
 cD:cs[2]? = some (.int .i64 d.cD)
 bp:∃ v,cs[3]? = some v∧xZ γ w v d.bp
 up:∀ i,i<4→∃ v,cs[4+i*2]? = some v∧xZ γ w v (d.up i)
 lo:∀ i,i<4→∃ v,cs[4+i*2+1]? = some v∧xZ γ w v (d.lo i)
theorem uX.kept {cs:Array Value} {d:Wk} {γ':So} {w':World} (h:uX γ w cs d) (k:Kept γ w γ' w'):uX γ' w' cs d :=
 ⟨h.cD,h.bp.imp fun _ ⟨h1,h2⟩=>⟨h1,k.EU h2⟩,fun i hi=>(h.up i hi).imp fun _ ⟨h1,h2⟩=>⟨h1,k.EU h2⟩,fun i hi=>(h.lo i hi).imp fun _ ⟨h1,h2⟩=>⟨h1,k.EU h2⟩⟩
theorem uX.boxed {cs:Array Value} {d:Wk} {t:TypeId} (h:uX γ w cs d):gp (γ.more w.heap.size) (w.alloc (.cells cs t)) w.heap.size d:=by
 have k:=Kept.alloc γ w w.heap.size (.cells cs t)
 exact⟨bE.fresh rfl h.cD,h.bp.imp fun _ ⟨h1,h2⟩=>⟨bE.fresh rfl h1,k.EU h2⟩,fun i hi=>(h.up i hi).imp fun _ ⟨h1,h2⟩=>⟨bE.fresh rfl h1,k.EU h2⟩,fun i hi=>(h.lo i hi).imp fun _ ⟨h1,h2⟩=>⟨bE.fresh rfl h1,k.EU h2⟩⟩
def Ch (γ:So) (w:World) (c:Nat):Prop:=γ.all c∧w.heap[c]? = some (.chan 0 #[] false 0 0 false)
theorem Ch.lt {c:Nat} (h:Ch γ w c):c<w.heap.size:=(aR.1 h.2).1
theorem Ch.kept {c:Nat} {γ':So} {w':World} (h:Ch γ w c) (k:Kept γ w γ' w'):Ch γ' w' c:=⟨k.all h.1,(k.blk c h.1 h.lt).trans h.2⟩
def Shr (w:World) (cf cl:Nat):So:=(fun b=>b<w.heap.size∧b≠cf∧b≠cl,fun _=>False)
theorem bE.shr {cf cl:Nat} {ad:Addr} {v:Value} (hf:Ch γ w cf) (hl:Ch γ w cl) (h:bE γ w ad v):bE (Shr w cf cl) w ad v:=by
 refine⟨.inl ⟨h.lt,fun e => ?_,fun e => ?_⟩,h.2⟩
 ·have:=h.2; simp[World.cell?,e,hf.2] at this
 ·have:=h.2; simp[World.cell?,e,hl.2] at this
theorem xZ.shr {cf cl:Nat} {v:Value} {l:List Int} (hf:Ch γ w cf) (hl:Ch γ w cl) (h:xZ γ w v l):xZ (Shr w cf cl) w v l:=by
 obtain⟨A,cap,rfl,h⟩:=h
 exact⟨A,cap,rfl,fun i x hx=>by obtain⟨ad,h1,h2⟩:=h i x hx; exact⟨ad,h1,h2.shr hf hl⟩⟩
theorem gp.shr {cf cl b:Nat} {d:Wk} (hf:Ch γ w cf) (hl:Ch γ w cl) (h:gp γ w b d):gp (Shr w cf cl) w b d :=
 ⟨h.cD.shr hf hl,h.bp.imp fun _ ⟨h1,h2⟩=>⟨h1.shr hf hl,h2.shr hf hl⟩,fun i hi=>(h.up i hi).imp fun _ ⟨h1,h2⟩=>⟨h1.shr hf hl,h2.shr hf hl⟩,fun i hi=>(h.lo i hi).imp fun _ ⟨h1,h2⟩=>⟨h1.shr hf hl,h2.shr hf hl⟩⟩
def Old (A:Nat→Prop) (B0:Nat) (w0 w:World):Prop:=(∀ b,A b→w.heap[b]? = w0.heap[b]?)∧B0≤w.heap.size∧w.os=w0.os∧w.output=w0.output
def RP (af:Machine→Trace→Prop) (R:List Sm):Prop:=∀ A B0 w0 γ' a' w',aac A B0 w0 R (.ret,γ') .normal a' w' →
 KJ (iz Tryz.prog af) 60 () FG (fun _ e a w=>e = .ret∧a.defers=[]∧Old A B0 w0 w∧w.ownsRow B0 79 3 (a.tmps.getD 4 undef) R.length (R.flatMap qy)) a' w'
theorem W7:(Tryz.prog.info? 136).map (fun i=>(i.zero,i.size,i.bytes))=some (some (.chan none),1,8):=by kernel_rfl
theorem W6:(Tryz.prog.info? 137).map (fun i=>(i.zero,i.size,i.bytes))=some (some (.chan none),1,8):=by kernel_rfl
set_option maxRecDepth 100000 in
set_option maxHeartbeats 2000000 in
theorem IZ (hP:Plain Tryz.prog) {ca cb:Array Value} {da db:Wk} (uv:da.ok) (y7:db.ok) (hva:uX γ w ca da) (hvb:uX γ w cb db) (hT:RP af (dH da db)) :
  wV (NC Tryz.prog af) Tryz.prog (.bad,γ) 60 #[.agg ca,.agg cb] w fun γ' v w'=>γ'.1 = .bad∧Kept γ w γ'.2 w'∧kQ γ'.2 w' w.heap.size 79 3 v (dH da db).length ((dH da db).flatMap qy):=by
 have C:=W4 (af:=af) hP
 have hp:Pc.bad≠Pc.ret:=by simp
 obtain⟨i71,h71,-,-,b71⟩:=info_parts J8
 obtain⟨i4,h4,-,-,b4⟩:=info_parts Yq
 obtain⟨i138,afc,z138,-,-⟩:=info_parts W7
 obtain⟨i139,afb,z139,-,-⟩:=info_parts W6
 refine Cb Tryz.func60 (by rfl) rfl ?_
 simp only[Tryz.ntmps60,lg,List.length_cons,List.length_nil,Nat.reduceAdd,Nat.reduceSub,Array.replicate_succ,Array.replicate_zero,List.push_toArray,List.append_toArray,List.nil_append,List.cons_append]
 show KJ _ _ _ (.seq (.region _ _ false) (.seq (.region _ _ false) (.seq (.region _ _ false) qG))) _ _ _
 refine aY C (cr C ?_)
 refine pF C hp (ob := ?ob1) rfl (by rfl) (fun w=>run_eq_of fun K hK => ?r1) (fun w => ?e1) ?h1
 case r1=>go_simp; exact hK
 case e1=>simp[go_sem]
 intro w1 Pw
 try walk_nrm
 have rT:=(Kept.rely Pw).trans (Kept.alloc γ w1 w1.heap.size (.cells ca 94))
 have Uv:gp (γ.more w1.heap.size) (w1.alloc (.cells ca 94)) w1.heap.size da:=(hva.kept (Kept.rely Pw)).boxed
 have abZ:=hvb.kept rT
 generalize w1.alloc (.cells ca 94)=W1 at *
 generalize γ.more w1.heap.size=γ1 at *
 generalize w1.heap.size=b2 at *
 clear Pw
 refine pF C hp (ob := ?ob2) rfl (by rfl) (fun w=>run_eq_of fun K hK => ?r2) (fun w => ?e2) ?h2
 case r2=>go_simp; exact hK
 case e2=>simp[go_sem]
 intro w2 O4
 try walk_nrm
 have GW:=(Kept.rely O4).trans (Kept.alloc γ1 w2 w2.heap.size (.cells cb 94))
 have DI:gp (γ1.more w2.heap.size) (w2.alloc (.cells cb 94)) w2.heap.size db:=(abZ.kept (Kept.rely O4)).boxed
 have Lr:=Uv.kept GW
 have Lh:=rT.trans GW
 generalize w2.alloc (.cells cb 94)=W2 at *
 generalize γ1.more w2.heap.size=γ2 at *
 generalize w2.heap.size=b3 at *
 clear O4 GW rT Uv abZ
 refine av C ?_
 try walk_nrm
 refine aT C ?_
 co_then
 have hk:=Lh
 have ha:=Lr
 have hb:=DI
 clear Lh Lr DI
 refine aY C (cr C ?_)
 refine Fw C hp (f:=fun n => .chan (some n)) (ob := .chan 0 #[] false 0 0 false) rfl (by rfl) (fun w => ?_) (fun w => ?_) ?_
 ·have h:(Instr.makeChan 136 (.int .i64 0)).run Tryz.prog w=_:=run_makeChan (P:=Tryz.prog) (w:=w) Tryz.underlying136 h71 .i64 0 (by omega) (by rw[b71]; omega)
  simp[execOp,Act.eval,h]
 ·have h:(Instr.makeChan 136 (.int .i64 0)).events Tryz.prog w #[]=_:=events_makeChan (P:=Tryz.prog) (w:=w) Tryz.underlying136 h71 .i64 0 (by omega) (by rw[b71]; omega) #[]
  simp[execOp,Act.eval,h]
 intro UE Zu
 try walk_nrm
 have wA:=(Kept.rely Zu).trans (Kept.alloc _ UE UE.heap.size (.chan 0 #[] false 0 0 false))
 have XR:Ch (So.more γ2 UE.heap.size) (UE.alloc (.chan 0 #[] false 0 0 false)) UE.heap.size:=⟨.inr (.inr rfl),heap_alloc_new UE _⟩
 have afv:w.heap.size≤UE.heap.size:=aS hk.size Zu.1
 replace hk:=hk.trans wA
 replace ha:=ha.kept wA
 replace hb:=hb.kept wA
 generalize UE.alloc (.chan 0 #[] false 0 0 false)=Wpa at *
 generalize UE.heap.size=cf at *
 generalize So.more γ2 cf=γpa at *
 clear wA Zu
 refine pF C hp (ob := .cells #[.chan none] 136) rfl (by rfl) (fun w=>run_eq_of fun K hK => ?r4) (fun w => ?e4) ?h4
 case r4=>go_simp; exact hK
 case e4=>simp[execOp,Instr.alloc,zeroValue,typeInfo,afc,z138,newVar,newRow]
 intro Pq Zt
 try walk_nrm
 have wA:=(Kept.rely Zt).trans (Kept.alloc _ Pq Pq.heap.size (.cells #[.chan none] 136))
 have hz:(Pq.alloc (.cells #[.chan none] 136)).frozen? ⟨Pq.heap.size,0,none⟩=false:=World.frozen?_alloc_new _ _ _ _
 have hs:bE _ _ ⟨Pq.heap.size,0,none⟩ (.chan none):=bE.fresh (γ:=γpa) (w:=Pq) (cs:=#[.chan none]) (t:=136) rfl rfl
 have hO:(So.more γpa Pq.heap.size).2 Pq.heap.size := .inr rfl
 have GO:Wpa.heap.size≤Pq.heap.size:=Zt.1
 generalize Pq.alloc (.cells #[.chan none] 136)=Wpb at *
 generalize Pq.heap.size=b5 at *
 generalize So.more γpa b5=γpb at *
 clear Zt
 refine J6 C hp (ad:=⟨b5,0,none⟩) (v := .chan (some cf)) rfl (by rfl) hO (fun w₁ h₁=>⟨?_,?_⟩) ?_
 ·have hc:=(hs.rely h₁).2
  have O9:w₁.frozen? ⟨b5,0,none⟩=false:=(World.frozen?_of_block (h₁.2.1 b5 (.inr hO))).trans hz
  refine(?_:∀ K:Result Next→Prop,K (.ok .skip (w₁.setCell ⟨b5,0,none⟩ (.chan (some cf))))→K _) (· = _) rfl
  intro K hK
  go_simp
  try (unfold stored; go_simp)
  exact hK
 ·have hc:=(hs.rely h₁).2
  have O9:w₁.frozen? ⟨b5,0,none⟩=false:=(World.frozen?_of_block (h₁.2.1 b5 (.inr hO))).trans hz
  intro e he
  simp[go_sem,hc,O9] at he
  exact he
 intro wpc Zs
 try walk_nrm
 replace wA:=(wA.trans (Kept.rely Zs)).put (ad:=⟨b5,0,none⟩) (v := .chan (some cf)) GO
 have hb5:bE γpb (wpc.setCell ⟨b5,0,none⟩ (.chan (some cf))) ⟨b5,0,none⟩ (.chan (some cf)):=⟨.inr hO,World.cell?_setCell_same _ _ _ (hs.rely Zs).2⟩
 generalize wpc.setCell ⟨b5,0,none⟩ (.chan (some cf))=Wpc at *
 replace hk:=hk.trans wA
 replace XR:=XR.kept wA
 replace ha:=ha.kept wA
 replace hb:=hb.kept wA
 clear wA hs hz GO hO Zs
 refine aT C ?_
 co_then
 refine aY C (cr C ?_)
 refine Fw C hp (f:=fun n => .chan (some n)) (ob := .chan 0 #[] false 0 0 false) rfl (by rfl) (fun w => ?_) (fun w => ?_) ?_
 ·have h:(Instr.makeChan 137 (.int .i64 0)).run Tryz.prog w=_:=run_makeChan (P:=Tryz.prog) (w:=w) Tryz.underlying137 h4 .i64 0 (by omega) (by rw[b4]; omega)
  simp[execOp,Act.eval,h]
 ·have h:(Instr.makeChan 137 (.int .i64 0)).events Tryz.prog w #[]=_:=events_makeChan (P:=Tryz.prog) (w:=w) Tryz.underlying137 h4 .i64 0 (by omega) (by rw[b4]; omega) #[]
  simp[execOp,Act.eval,h]
 intro Ug Vg
 try walk_nrm
 have hne:cf≠Ug.heap.size:=Nat.ne_of_lt (XR.kept (Kept.rely Vg)).lt
 have wA:=(Kept.rely Vg).trans (Kept.alloc _ Ug Ug.heap.size (.chan 0 #[] false 0 0 false))
 have uw:Ch (So.more γpb Ug.heap.size) (Ug.alloc (.chan 0 #[] false 0 0 false)) Ug.heap.size:=⟨.inr (.inr rfl),heap_alloc_new Ug _⟩
 have afu:w.heap.size≤Ug.heap.size:=aS hk.size Vg.1
 replace hk:=hk.trans wA
 replace ha:=ha.kept wA
 replace hb:=hb.kept wA
 replace XR:=XR.kept wA
 replace hb5:=(wA.sees hb5)
 generalize Ug.alloc (.chan 0 #[] false 0 0 false)=Wqa at *
 generalize Ug.heap.size=cl at *
 generalize So.more γpb cl=γqa at *
 clear wA Vg
 refine pF C hp (ob := .cells #[.chan none] 137) rfl (by rfl) (fun w=>run_eq_of fun K hK => ?r5) (fun w => ?e5) ?h5
 case r5=>go_simp; exact hK
 case e5=>simp[execOp,Instr.alloc,zeroValue,typeInfo,afb,z139,newVar,newRow]
 intro Pp Zr
 try walk_nrm
 have wA:=(Kept.rely Zr).trans (Kept.alloc _ Pp Pp.heap.size (.cells #[.chan none] 137))
 have hz:(Pp.alloc (.cells #[.chan none] 137)).frozen? ⟨Pp.heap.size,0,none⟩=false:=World.frozen?_alloc_new _ _ _ _
 have hs:bE _ _ ⟨Pp.heap.size,0,none⟩ (.chan none):=bE.fresh (γ:=γqa) (w:=Pp) (cs:=#[.chan none]) (t:=137) rfl rfl
 have hO:(So.more γqa Pp.heap.size).2 Pp.heap.size := .inr rfl
 have GO:Wqa.heap.size≤Pp.heap.size:=Zr.1
 generalize Pp.alloc (.cells #[.chan none] 137)=Wqb at *
 generalize Pp.heap.size=b6 at *
 generalize So.more γqa b6=γqb at *
 clear Zr
 refine J6 C hp (ad:=⟨b6,0,none⟩) (v := .chan (some cl)) rfl (by rfl) hO (fun w₁ h₁=>⟨?_,?_⟩) ?_
 ·have hc:=(hs.rely h₁).2
  have O9:w₁.frozen? ⟨b6,0,none⟩=false:=(World.frozen?_of_block (h₁.2.1 b6 (.inr hO))).trans hz
  refine(?_:∀ K:Result Next→Prop,K (.ok .skip (w₁.setCell ⟨b6,0,none⟩ (.chan (some cl))))→K _) (· = _) rfl
  intro K hK
  go_simp
  try (unfold stored; go_simp)
  exact hK
 ·have hc:=(hs.rely h₁).2
  have O9:w₁.frozen? ⟨b6,0,none⟩=false:=(World.frozen?_of_block (h₁.2.1 b6 (.inr hO))).trans hz
  intro e he
  simp[go_sem,hc,O9] at he
  exact he
 intro wqc Zq
 try walk_nrm
 replace wA:=(wA.trans (Kept.rely Zq)).put (ad:=⟨b6,0,none⟩) (v := .chan (some cl)) GO
 have hb6:bE γqb (wqc.setCell ⟨b6,0,none⟩ (.chan (some cl))) ⟨b6,0,none⟩ (.chan (some cl)):=⟨.inr hO,World.cell?_setCell_same _ _ _ (hs.rely Zq).2⟩
 generalize wqc.setCell ⟨b6,0,none⟩ (.chan (some cl))=Wqc at *
 replace hk:=hk.trans wA
 replace uw:=uw.kept wA
 replace ha:=ha.kept wA
 replace hb:=hb.kept wA
 replace XR:=XR.kept wA
 replace hb5:=(wA.sees hb5)
 clear wA hs hz GO hO Zq
 refine aT C ?_
 co_then
 refine adg fun w1 r1 => ?_
 have Y9:=Kept.rely r1
 have P8:=XR.kept Y9
 have P7:=uw.kept Y9
 have rT:=hk.trans Y9
 have hS:GR (fun b=>γ.all b∧b<w.heap.size) w.heap.size w (Shr w1 cf cl) w1 :=
  ⟨fun b h=>h.2,fun b h => .inl ⟨cH h.2 rT.size,by have:=h.2; omega,by have:=h.2; omega⟩,fun b h=>rT.blk b h.1 h.2,rT.size,rT.env⟩
 refine(?_:∀ a',(∃ u,a'=LK b2 b3 b5 b6 u)→KJ _ _ _ qG _ a' _) _ (oG rfl)
 rintro a' ⟨u,rfl⟩
 have hW:∀ n,0<n→A7 (fun c=>c=cf∨c=cl) (entry n (chain cf cl (.bool true) (.bool false) false da.bp.length (Ay cf (.agg #[.int .i64 0,.int .i64 0,.int .i64 0]) ((dH da db).map ur)) (da.bp.map fun x=>msgs da db x db.bp))):=by
  intro n hn
  have h:=IP (tv := .bool true) (z := .agg #[.int .i64 0,.int .i64 0,.int .i64 0]) (z2 := .bool false) (pM:=false) hne (da.bp.map fun x=>msgs da db x db.bp) hn
  rwa [eT,Xb] at h
 have iV:(chain cf cl (.bool true) (.bool false) false da.bp.length (Ay cf (.agg #[.int .i64 0,.int .i64 0,.int .i64 0]) ((dH da db).map ur)) (da.bp.map fun x=>msgs da db x db.bp)).live:=by
  obtain⟨x,y,h⟩:=Je (cf:=cf) (cl:=cl) (tv := .bool true) (z2 := .bool false) (pM:=false) da.bp.length (Ay cf (.agg #[.int .i64 0,.int .i64 0,.int .i64 0]) ((dH da db).map ur)) (da.bp.map fun x=>msgs da db x db.bp)
  rw[h]
  exact⟨by simp,by simp,by simp⟩
 refine Tw hP (Cs:=fun c=>c=cf∨c=cl) (S:=(Shr w1 cf cl).1) (O:=(Shr w1 cf cl).2) iV (fun b h=>h.elim) (fun b h=>h.elim (·.1) (·.elim)) (fun c hc => ?_) hW
  (WC hP uv y7 hS ⟨(ha.kept Y9).shr P8 P7,(hb.kept Y9).shr P8 P7,(Y9.sees hb5).shr P8 P7,(Y9.sees hb6).shr P8 P7⟩ u (fun γ' a' w' hE=>xk (hT _ _ _ γ' a' w' hE) ?_))
 ·rcases hc with rfl | rfl
  ·exact⟨⟨0,false,P8.2⟩,fun h=>h.2.1 rfl,fun h=>h⟩
  ·exact⟨⟨0,false,P7.2⟩,fun h=>h.2.2 rfl,fun h=>h⟩
 ·rintro _ e a3 w3 ⟨rfl,hd,hold,fD⟩
  exact⟨(γ.1,fun b=>γ.2 b∨(w.heap.size≤b∧b<w3.heap.size)),hd,a3.tmps.getD 4 undef,resultsC_tmp Tryz.results60 _,rfl,
   ⟨rfl,fun _ h => .inl h,fun b hb hlt=>hold.1 b ⟨hb,hlt⟩,hold.2.1,hold.2.2⟩,⟨fD,fun b hb => .inr (fD.lt b hb)⟩⟩
end Go.Co
end
