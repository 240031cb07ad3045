import Derived.Test.YtedcgbkilmlbhaaGreatPk29
section
namespace Go.Co
open Go Go.Conc Go.Proofs
variable {af:Machine→Trace→Prop} {γ:So} {w:World}
theorem I7 {P:Program} {main:Bool} {K:Gm→Goroutine→World→Prop} {p:Pc} {a:Act} {ops:Array Oper} {i:Nat} {rest:List Nat} {o:Oper} (C:KC P main K xG B7) (hp:p ≠ .ret) {v:Value} {b:Frame} {k:List Item} {cs:List Frame} (ho:ops[i]? = some o) (hw:Region.wanted o (yielded ops a.tmps)=true) (hk:b.kind ≠ .early)
  (hrun:∀ w₁,gb γ w w₁→(execOp a.eval o).run P w₁ = .ok (.value v) w₁∧∀ e∈(execOp a.eval o).events P w₁ #[],QB γ.1 γ.2 e) (h:K (p,γ) (G (b.at (a.put o.dst v) (.inRegion ops rest::k)) cs) w):K (p,γ) (G (b.at a (.inRegion ops (i::rest)::k)) cs) w :=
 C.step _ _ _ _ fun w₁ r=>⟨_,_,_,_,(p,γ),stepG_value ho hw hk (hrun w₁ (Ql hp r)).1,YB hp ⟨rfl,EA fun e he=>(hrun w₁ (Ql hp r)).2 e (mem_listed he)⟩,C.rely _ _ _ _ r h⟩
theorem GN:(Tryz.prog.info? 79).map (fun i=>(i.zero,i.size,i.bytes))=some (some (.agg #[.int .i64 0,.int .i64 0,.int .i64 0]),3,24):=by kernel_rfl
theorem FE (w:World) (x y s:Int):(Instr.build 79 #[(0,.int .i64 x),(1,.int .i64 y),(2,.int .i64 s)]).run Tryz.prog w = .ok (.agg #[.int .i64 x,.int .i64 y,.int .i64 s]) w :=
 run_build w 79 _ _ (by kernel_rfl)
theorem Af (w:World) (es:Array Event) (x y s:Int):(Instr.build 79 #[(0,.int .i64 x),(1,.int .i64 y),(2,.int .i64 s)]).events Tryz.prog w es=es:=by
 obtain⟨i0,hi,DD,LI,X4⟩:=info_parts GN
 obtain⟨i3,hi3,hy0,PT,hy2⟩:=info_parts M4
 simp[Instr.build,run_underlying Tryz.underlying79,sizeOf,typeInfo,zeroValue,hi,DD,hi3,PT]
 split<;>simp
noncomputable def CC:Code:=Tryz.f102.body.getD .skip
noncomputable def X84:Code:=match CC with | .seq x _=>x | _ => .skip
noncomputable def UQ:Code:=match CC with | .seq _ r=>r | _ => .skip
theorem Bv (a b:Wk) (x y:Int) (ys:List Int):msgs a b x (y::ys)=(eO a b x y).map (wh x y)++msgs a b x ys:=by simp[msgs]
def acK (cf cl bl:Nat) (tv:Value) (γ':Gm) (e:Exit) (a':Act) (w':World):Prop:=e = .normal∧γ'.1=wk cf cl tv []∧aT γ'.2 w' ⟨bl,0,none⟩ (.chan (some cl))∧a'.defers=[]∧a'.tmps.size=46∧a'.tmps[4]? = some (.pointer (some ⟨bl,0,none⟩))
theorem Pq {bb ba bx bf bl:Nat} {vl:Value} {nl k:Nat} {y:Int} {v:Value} {m:Nat} {a:Act} (hd:a.defers=[]) (hsz:a.tmps.size=46) (t0:a.tmps[0]? = some (.pointer (some ⟨bb,0,none⟩))) (t1:a.tmps[1]? = some (.pointer (some ⟨ba,0,none⟩))) (t2:a.tmps[2]? = some (.pointer (some ⟨bx,0,none⟩))) (t3:a.tmps[3]? = some (.pointer (some ⟨bf,0,none⟩))) (t4:a.tmps[4]? = some (.pointer (some ⟨bl,0,none⟩)))
  (t6:a.tmps[6]? = some (.int .i64 y)) (t11:a.tmps[11]? = some vl) (t12:a.tmps[12]? = some (.int .i64 nl)) (t13:a.tmps[13]? = some (.int .i64 k)) (t32:a.tmps[32]? = some v) (t33:a.tmps[33]? = some (.int .i64 m)) (t34:a.tmps[34]? = some (.int .i64 0)):∃ u,a=Nh bb ba bx bf bl vl nl k y v m 0 u:=by
 obtain⟨T,df⟩:=a
 simp only at hd hsz
 subst hd
 obtain⟨v0,v1,v2,v3,v4,v5,v6,v7,v8,v9,v10,v11,v12,v13,v14,v15,v16,v17,v18,v19,v20,v21,v22,v23,v24,v25,v26,v27,v28,v29,v30,v31,v32,v33,v34,v35,v36,v37,v38,v39,v40,v41,v42,v43,v44,v45,rfl⟩:=S8 T hsz
 simp at t0 t1 t2 t3 t4 t6 t11 t12 t13 t32 t33 t34
 subst t0 t1 t2 t3 t4 t6 t11 t12 t13 t32 t33 t34
 exact lN rfl
set_option maxRecDepth 100000 in
set_option maxHeartbeats 2000000 in
theorem Fu (hP:Plain Tryz.prog) {bb ba bx bf bl cf cl:Nat} {tv:Value} {da db:Wk} {x:Int} (oF:da.ok) (vY:db.ok) (DG:0≤x) (Tq:x<4)
  (ha:er γ w ba da) (hb:er γ w bb db) (hx:aT γ w ⟨bx,0,none⟩ (.int .i64 x)) (hf:aT γ w ⟨bf,0,none⟩ (.chan (some cf))) (hl:aT γ w ⟨bl,0,none⟩ (.chan (some cl))) :
  KJ (KG Tryz.prog af false) 102 (wk cf cl tv (msgs da db x db.aQ),γ) X84 (acK cf cl bl tv)
   ⟨#[.pointer (some ⟨bb,0,none⟩),.pointer (some ⟨ba,0,none⟩),.pointer (some ⟨bx,0,none⟩),.pointer (some ⟨bf,0,none⟩),.pointer (some ⟨bl,0,none⟩),undef,undef,undef,undef,undef,undef,undef,undef,undef,undef,undef,undef,undef,undef,undef,undef,undef,undef,undef,undef,undef,undef,undef,undef,undef,undef,undef,undef,undef,undef,undef,undef,undef,undef,undef,undef,undef,undef,undef,undef,undef],[]⟩ w:=by
 have C:=wv (af:=af) (main:=false) hP
 have hp:∀ vs,wk cf cl tv vs ≠ .ret:=fun vs=>(Ik vs).1
 obtain⟨vl,hvl,A,cap,rfl,hA⟩:=hb.aQ
 have ZO:=vY.Zi
 refine aM C (bz C ?_)
 refine aj C ?_
 try walk_nrm
 refine aj C ?_
 try walk_nrm
 refine gp C (hp _) hvl ?_
 try walk_nrm
 refine aj C ?_
 try walk_nrm
 refine aj C ?_
 try walk_nrm
 refine aG C ?_
 co_then
 refine eA C ?_
 refine lG C (fun n γ' a w'=>∃ γ3 k,γ'=(wk cf cl tv (msgs da db x (db.aQ.drop k)),γ3)∧Kept γ w γ3 w'∧k≤db.aQ.length∧n=db.aQ.length-k∧∃ u,a=UI bb ba bx bf bl (.slice A db.aQ.length cap) db.aQ.length k u) (n:=db.aQ.length) ⟨γ,0,rfl,Kept.refl _ _,by omega,by omega,lN rfl⟩ ?_
 rintro n γ' a w' ⟨γ3,k,hγ,vX,hk,hn,u,As⟩
 subst hγ
 unfold UI at As
 subst As
 refine aM C (bz C ?_)
 by_cases hlt:k<db.aQ.length
 ·have Vi:decide ((k:Int)<(db.aQ.length:Int))=true:=by simpa using hlt
  obtain⟨y,hy⟩:∃ y,db.aQ[k]? = some y:=⟨_,List.getElem?_eq_getElem hlt⟩
  obtain⟨ad,hAe,X9⟩:=hA k y hy
  subst hAe
  have hyb:=vY.aQ k y hy
  have Na:db.aQ.drop k=y::db.aQ.drop (k+1):=by
   rw[List.drop_eq_getElem_cons hlt]
   congr 1
   exact Option.some.inj ((List.getElem?_eq_getElem hlt).symm.trans hy)
  have hs3:=vX.sees X9
  have hw5:IntKind.i64.wrap ((k:Int)+1)=(k:Int)+1:=by rw[rI]<;>omega
  refine aj C ?_
  try walk_nrm
  refine aG C ?_
  co_then
  refine aM C (cr C (t:=true) rfl ?_)
  simp only[if_true]
  refine ir C ?_
  co_then
  refine aM C (eA C (aM C (bz C ?_)))
  refine aj C ?_
  try walk_nrm
  refine gp C (hp _) hs3 ?_
  try walk_nrm
  refine aj C ?_
  try walk_nrm
  refine aG C ?_
  co_then
  rw[Na,Bv]
  clear hs3 hA
  refine aM C (R6 C (hp _) (ha.kept vX) (hb.kept vX) (vX.sees hx) DG Tq hyb.1 (by omega) oF vY rfl rfl rfl rfl rfl rfl ?_)
  intro v γ4 a4 w4 Qu ZC hold h32 h33 h34 dN P4
  co_then
  obtain⟨A2,oA,rfl,Ze⟩:=dN.B2
  obtain⟨u4,ha4⟩:=Pq (bb:=bb) (ba:=ba) (bx:=bx) (bf:=bf) (bl:=bl) (vl := .slice (some ad) db.aQ.length cap) (nl:=db.aQ.length) (k:=k) Qu ZC (hold 0 (by omega)) (hold 1 (by omega)) (hold 2 (by omega)) (hold 3 (by omega)) (hold 4 (by omega)) (hold 6 (by omega)) (hold 11 (by omega)) (hold 12 (by omega)) (hold 13 (by omega)) h32 h33 h34
  clear hold h32 h33 h34 Qu ZC dN
  have ab6:=vX.trans P4
  generalize Vd:eO da db x y=l at *
  refine eA C ?_
  refine lG C (fun n γ' a w'=>∃ γ5 j,γ'=(wk cf cl tv ((l.drop j).map (wh x y)++msgs da db x (db.aQ.drop (k+1))),γ5)∧Kept γ4 w4 γ5 w'∧j≤l.length∧n=l.length-j∧∃ u,a=Nh bb ba bx bf bl (.slice (some ad) db.aQ.length cap) db.aQ.length k y (.slice A2 l.length oA) l.length j u) (n:=l.length) ⟨γ4,0,rfl,Kept.refl _ _,by omega,by omega,u4,ha4⟩ ?_
  clear ha4 vX
  rintro n2 γ' a w6 ⟨γ5,j,hγ,H6,hj,hn2,u,ha5⟩
  subst hγ
  unfold Nh at ha5
  subst ha5
  have Tx:=ab6.trans H6
  refine aM C (bz C ?_)
  by_cases QW:j<l.length
  ·have Y5:decide ((j:Int)<(l.length:Int))=true:=by simpa using QW
   obtain⟨s,hs⟩:∃ s,l[j]? = some s:=⟨_,List.getElem?_eq_getElem QW⟩
   obtain⟨TS,acA,abT⟩:=Ze j s hs
   subst acA
   have XF:l.drop j=s::l.drop (j+1):=by
    rw[List.drop_eq_getElem_cons QW]
    congr 1
    exact Option.some.inj ((List.getElem?_eq_getElem QW).symm.trans hs)
   have U5:=H6.sees abT
   have hf5:=Tx.sees hf
   have hx5:=Tx.sees hx
   have hw6:IntKind.i64.wrap ((j:Int)+1)=(j:Int)+1:=by
    have h1:=(vY.up y.toNat).1
    have h2:=(oF.lo x.toNat).1
    have h3:l.length≤2001:=by
     rw[← Vd]
     exact Nat.le_trans (CO _ _ _ _) (by omega)
    rw[rI]<;>omega
   refine aj C ?_
   try walk_nrm
   refine aG C ?_
   co_then
   refine aM C (cr C (t:=true) rfl ?_)
   simp only[if_true]
   refine ir C ?_
   co_then
   refine aM C (eA C (aM C (bz C ?_)))
   refine aj C ?_
   try walk_nrm
   refine gp C (hp _) U5 ?_
   try walk_nrm
   refine aj C ?_
   try walk_nrm
   refine aG C ?_
   co_then
   refine bz C ?_
   refine gp C (hp _) hf5 ?_
   try walk_nrm
   refine gp C (hp _) hx5 ?_
   try walk_nrm
   refine aj C ?_
   try walk_nrm
   refine aj C ?_
   try walk_nrm
   have hbr:=fun w=>FE w x y s
   have Ak:=fun w=>Af w #[] x y s
   refine cD C (v := ?v18) rfl (by rfl) (fun w=>run_eq_of fun K hK => ?r18) (fun w => ?e18) ?h18
   case r18=>go_simp; exact hK
   case e18=>simp[go_sem,Ak]
   try walk_nrm
   clear hbr Ak
   rw[XF]
   show KO _ _ (Pc.send cf (wh x y s) (wk cf cl tv ((l.drop (j+1)).map (wh x y)++msgs da db x (db.aQ.drop (k+1)))),γ5) _ _ _ _ _
   refine Sz rfl (by rfl) rfl rfl rfl (Ik _).2 (hp _) (fun w7 r7 => ?_)
   have P3:=H6.trans (Kept.rely r7)
   clear U5 hf5 hx5 Tx H6
   try walk_nrm
   refine aG C ?_
   co_then
   refine bz C ?_
   refine aj C ?_
   try walk_nrm
   refine aj C ?_
   try walk_nrm
   refine aG C (cO ?_)
   exact⟨l.length-(j+1),by omega,γ5,j+1,rfl,P3,by omega,rfl,lN rfl⟩
  ·have YY:j=l.length:=by omega
   subst YY
   have Y5:decide ((l.length:Int)<(l.length:Int))=false:=by simp
   simp only[List.drop_length,List.map_nil,List.nil_append]
   refine aj C ?_
   try walk_nrm
   refine aG C ?_
   co_then
   refine aM C (cr C (t:=false) rfl ?_)
   simp only[Bool.false_eq_true,if_false]
   refine kE C ?_
   co_then
   refine bz C ?_
   refine aj C ?_
   try walk_nrm
   refine aj C ?_
   try walk_nrm
   refine aG C (cO ?_)
   exact⟨db.aQ.length-(k+1),by omega,γ5,k+1,rfl,Tx,by omega,rfl,lN rfl⟩
 ·have HZ:k=db.aQ.length:=by omega
  subst HZ
  have Vi:decide ((db.aQ.length:Int)<(db.aQ.length:Int))=false:=by simp
  simp only[List.drop_length]
  refine aj C ?_
  try walk_nrm
  refine aG C ?_
  co_then
  refine aM C (cr C (t:=false) rfl ?_)
  simp only[Bool.false_eq_true,if_false]
  refine kE C ?_
  co_then
  exact⟨rfl,rfl,vX.sees hl,rfl,rfl,rfl⟩
noncomputable def bot:Frame:={ (default:Frame) with fn:=Tryz.prog.funcs.size,defers:=[],mode := .panicking [goexitEntry] }
def P8:Frame:={ (default:Frame) with fn:=102,kind := .deferred }
def call84 (bb ba bx bf bl:Nat):Deferred:={ target := .fn (.func 102) #[.pointer (some ⟨bb,0,none⟩),.pointer (some ⟨ba,0,none⟩),.pointer (some ⟨bx,0,none⟩),.pointer (some ⟨bf,0,none⟩),.pointer (some ⟨bl,0,none⟩)],args:=#[] }
theorem Sb (a:Act) (hd:a.defers=[]) (ops:Array Oper):QuitsIn Tryz.prog 4 (G (P8.at a [.inRegion ops []]) [bot]):=by
 obtain⟨T,df⟩:=a
 simp only at hd
 subst hd
 refine .inr ⟨rfl,_,fun w=>stepG_region_end,?_⟩
 refine .inr ⟨rfl,_,fun w=>stepG_end,?_⟩
 refine .inr ⟨rfl,G bot [],fun w => ?_,?_⟩
 ·simp[G,stepG,unwind,doReturn,results,Frame.at,P8,bot,Tryz.func102,Tryz.f102,seen,GStep.after,goexitEntry]
 refine .inr ⟨rfl,{ G bot [] with status := .finished },fun w => ?_,rfl⟩
 simp[G,stepG,unwind,bot,goexitEntry,Frame.catches]
 rfl
theorem XQ (bb ba bx bf bl:Nat) (w:World):stepG Tryz.prog false (born Tryz.prog (call84 bb ba bx bf bl)) w =
  .go (G (P8.at ⟨#[.pointer (some ⟨bb,0,none⟩),.pointer (some ⟨ba,0,none⟩),.pointer (some ⟨bx,0,none⟩),.pointer (some ⟨bf,0,none⟩),.pointer (some ⟨bl,0,none⟩),undef,undef,undef,undef,undef,undef,undef,undef,undef,undef,undef,undef,undef,undef,undef,undef,undef,undef,undef,undef,undef,undef,undef,undef,undef,undef,undef,undef,undef,undef,undef,undef,undef,undef,undef,undef,undef,undef,undef,undef,undef],[]⟩ [.code CC]) [bot]) w #[]:=by
 simp[born,call84,stepG,unwind,callDeferred,invoke,callFunc,Tryz.func102,Tryz.f102,seen,GStep.after,G,Frame.enter,Frame.at,P8,bot,CC]
set_option maxRecDepth 100000 in
theorem Ke (hP:Plain Tryz.prog) {bb ba bx bf bl cf cl:Nat} {da db:Wk} {x:Int} (oF:da.ok) (vY:db.ok) (DG:0≤x) (Tq:x<4)
  (ha:er γ w ba da) (hb:er γ w bb db) (hx:aT γ w ⟨bx,0,none⟩ (.int .i64 x)) (hf:aT γ w ⟨bf,0,none⟩ (.chan (some cf))) (hl:aT γ w ⟨bl,0,none⟩ (.chan (some cl))) :
  Pr Tryz.prog af false (wk cf cl (.bool true) (msgs da db x db.aQ)) γ (born Tryz.prog (call84 bb ba bx bf bl)) w:=by
 have C:=wv (af:=af) (main:=false) hP
 have hne:=Ik (cf:=cf) (cl:=cl) (tv := .bool true) (msgs da db x db.aQ)
 suffices h:KG Tryz.prog af false (wk cf cl (.bool true) (msgs da db x db.aQ),γ) (born Tryz.prog (call84 bb ba bx bf bl)) w from h (fun _=>hne.1) hne.2
 refine C.go (fr:=(born Tryz.prog (call84 bb ba bx bf bl)).frame) (cs:=[]) (fun w=>XQ bb ba bx bf bl w) ?_
 show KG Tryz.prog af false _ (G (P8.at _ (.code (.seq X84 UQ)::[])) [bot]) w
 refine C.go (fun w=>stepG_seq) ?_
 refine Fu hP oF vY DG Tq ha hb hx hf hl P8 [.code UQ] [bot] rfl (by simp[P8]) ?_
 rintro⟨p',γ'⟩ e a' w' ⟨rfl,od,gK,Ai,hsz',PX⟩
 simp only at od gK
 subst od
 show KG Tryz.prog af false _ (G (P8.at a' (.code (.region _ _ false)::[])) [bot]) w'
 refine C.go (fun w=>stepG_region) ?_
 refine I7 C (Ik _).1 (v := .chan (some cl)) rfl (by rfl) (by simp[P8]) (fun w₁ h₁=>⟨run_eq_of fun K hK => ?_,?_⟩) ?_
 ·have hc:=(gK.rely h₁).2
  clear hsz'
  go_simp
  exact hK
 ·have hc:=(gK.rely h₁).2
  intro e he
  simp[go_sem,hc,PX] at he
  subst he
  exact(gK.rely h₁).Dw
 ·refine Dq rfl (by rfl) rfl ?_ rfl (by simp[P8]) ⟨4,QuitsD.of_quitsIn (Sb _ (by exact Ai) _)⟩
  simp[Act.eval,Act.put,hsz']
end Go.Co
end
section
namespace Go.Co
open Go Go.Conc Go.Proofs
variable {af:Machine→Trace→Prop} {γ:So} {w:World}
theorem yG {cf cl:Nat} {z2:Value} {mG:Bool} (k:Nat):Dx cf cl z2 mG k ≠ .ret∧Dx cf cl z2 mG k ≠ .stop:=by cases k<;>simp[Dx]
theorem Cv {P:Program} {main:Bool} {fn:FuncId} {ops:Array Oper} {todo:List Nat} {Q:Gm→Exit→Act→World→Prop} {a:Act}:KO (KG P af main) fn (.bad,γ) ops todo Q a w:=fun _ _ _ _ _ _ _ _=>trivial
theorem Uq:(Tryz.prog.info? 4).map (fun i=>(i.zero,i.size,i.bytes))=some (some (.bool false),1,1):=by kernel_rfl
theorem abJ (f:FuncId):(Tryz.prog.funcs[f]?).any (·.norace)=false:=by
 have h:Tryz.prog.funcs.all (fun f => !f.norace)=true:=by kernel_rfl
 cases hf:Tryz.prog.funcs[f]? with
 | none=>rfl
 | some fn =>
  obtain⟨hlt,rfl⟩:=Array.getElem?_eq_some_iff.1 hf
  simpa using Array.all_eq_true.1 h f hlt
noncomputable def CB:Code:=Tryz.f104.body.getD .skip
noncomputable def X85:Code:=match CB with | .seq x _=>x | _ => .skip
noncomputable def UO:Code:=match CB with | .seq _ r=>r | _ => .skip
def Z5 (ba bl bf:Nat) (vl:Value) (nl k:Nat) (u:Nat→Value):Act :=
 ⟨#[.pointer (some ⟨ba,0,none⟩),.pointer (some ⟨bl,0,none⟩),.pointer (some ⟨bf,0,none⟩),u 3,u 4,vl,.int .i64 nl,.int .i64 k,u 8,u 9,u 10,u 11,u 12],[]⟩
def MJ (cf cl bf:Nat) (z2:Value) (γ':Gm) (e:Exit) (a':Act) (w':World):Prop:=e = .normal∧γ'.1=Dx cf cl z2 false 0∧aT γ'.2 w' ⟨bf,0,none⟩ (.chan (some cf))∧a'.defers=[]∧a'.tmps.size=13∧a'.tmps[2]? = some (.pointer (some ⟨bf,0,none⟩))
set_option maxRecDepth 100000 in
set_option maxHeartbeats 1000000 in
theorem FQ (hP:Plain Tryz.prog) {ba bl bf cf cl:Nat} {da:Wk} (oF:da.ok)
  (ha:er γ w ba da) (hf:aT γ w ⟨bf,0,none⟩ (.chan (some cf))) (hl:aT γ w ⟨bl,0,none⟩ (.chan (some cl))) :
  KJ (KG Tryz.prog af false) 104 (Dx cf cl (.bool false) false da.aQ.length,γ) X85 (MJ cf cl bf (.bool false))
   ⟨#[.pointer (some ⟨ba,0,none⟩),.pointer (some ⟨bl,0,none⟩),.pointer (some ⟨bf,0,none⟩),undef,undef,undef,undef,undef,undef,undef,undef,undef,undef],[]⟩ w:=by
 have C:=wv (af:=af) (main:=false) hP
 have hp:∀ k,Dx cf cl (.bool false) false k ≠ .ret:=fun k=>(yG k).1
 obtain⟨vl,hvl,A,cap,rfl,-⟩:=ha.aQ
 have ZO:=oF.Zi
 obtain⟨i4,hi4,hy0,PT,hy2⟩:=info_parts Uq
 refine aM C (bz C ?_)
 refine aj C ?_
 try walk_nrm
 refine aj C ?_
 try walk_nrm
 refine gp C (hp _) hvl ?_
 try walk_nrm
 refine aj C ?_
 try walk_nrm
 refine aj C ?_
 try walk_nrm
 refine aG C ?_
 co_then
 refine eA C ?_
 refine lG C (fun n γ' a w'=>∃ γ3 k,γ'=(Dx cf cl (.bool false) false (da.aQ.length-k),γ3)∧Kept γ w γ3 w'∧k≤da.aQ.length∧n=da.aQ.length-k∧∃ u,a=Z5 ba bl bf (.slice A da.aQ.length cap) da.aQ.length k u) (n:=da.aQ.length) ⟨γ,0,rfl,Kept.refl _ _,by omega,by omega,lN rfl⟩ ?_
 rintro n γ' a w' ⟨γ3,k,hγ,vX,hk,hn,u,As⟩
 subst hγ
 unfold Z5 at As
 subst As
 refine aM C (bz C ?_)
 by_cases hlt:k<da.aQ.length
 ·have Vi:decide ((k:Int)<(da.aQ.length:Int))=true:=by simpa using hlt
  have YW:=vX.sees hl
  have hw5:IntKind.i64.wrap ((k:Int)+1)=(k:Int)+1:=by rw[rI]<;>omega
  refine aj C ?_
  try walk_nrm
  refine aG C ?_
  co_then
  refine aM C (cr C (t:=true) rfl ?_)
  simp only[if_true]
  refine ir C ?_
  co_then
  refine aM C (eA C (bz C ?_))
  refine gp C (hp _) YW ?_
  try walk_nrm
  have hm:da.aQ.length-k=(da.aQ.length-(k+1))+1:=by omega
  rw[hm]
  show KO _ _ (Pc.recv cl false (.bool false) (fun x=>match x with | some _=>Dx cf cl (.bool false) false (da.aQ.length-(k+1)) | none => .bad),γ3) _ _ _ _ _
  refine C2 rfl (by rfl) (fun w => ?_) (fun w => ?_) (fun x => ?_) (fun _ x => ?_) (fun x w7 r7 => ?_)
  ·simp[execOp,Act.eval,run_underlying Tryz.underlying137,zeroValue,typeInfo,hi4,hy0,rcase]
  ·simp[execOp,Act.eval,run_underlying Tryz.underlying137,zeroValue,typeInfo,hi4,hy0]
  ·cases x with
   | none=>simp
   | some v=>exact(yG _).2
  ·cases x with
   | none=>simp
   | some v=>exact(yG _).1
  cases x with
  | none=>exact Cv
  | some v =>
   have P3:=vX.trans (Kept.rely r7)
   clear YW vX
   simp only[]
   try walk_nrm
   refine aG C ?_
   co_then
   refine bz C ?_
   refine aj C ?_
   try walk_nrm
   refine aj C ?_
   try walk_nrm
   refine aG C (cO ?_)
   exact⟨da.aQ.length-(k+1),by omega,γ3,k+1,rfl,P3,by omega,rfl,lN rfl⟩
 ·have HZ:k=da.aQ.length:=by omega
  subst HZ
  have Vi:decide ((da.aQ.length:Int)<(da.aQ.length:Int))=false:=by simp
  simp only[Nat.sub_self]
  refine aj C ?_
  try walk_nrm
  refine aG C ?_
  co_then
  refine aM C (cr C (t:=false) rfl ?_)
  simp only[Bool.false_eq_true,if_false]
  refine kE C ?_
  co_then
  exact⟨rfl,rfl,vX.sees hf,rfl,rfl,rfl⟩
def P7:Frame:={ (default:Frame) with fn:=104,kind := .deferred }
def call85 (ba bl bf:Nat):Deferred:={ target := .fn (.func 104) #[.pointer (some ⟨ba,0,none⟩),.pointer (some ⟨bl,0,none⟩),.pointer (some ⟨bf,0,none⟩)],args:=#[] }
theorem Sa (a:Act) (hd:a.defers=[]) (ops:Array Oper):QuitsIn Tryz.prog 4 (G (P7.at a [.inRegion ops []]) [bot]):=by
 obtain⟨T,df⟩:=a
 simp only at hd
 subst hd
 refine .inr ⟨rfl,_,fun w=>stepG_region_end,?_⟩
 refine .inr ⟨rfl,_,fun w=>stepG_end,?_⟩
 refine .inr ⟨rfl,G bot [],fun w => ?_,?_⟩
 ·simp[G,stepG,unwind,doReturn,results,Frame.at,P7,bot,Tryz.func104,Tryz.f104,seen,GStep.after,goexitEntry]
 refine .inr ⟨rfl,{ G bot [] with status := .finished },fun w => ?_,rfl⟩
 simp[G,stepG,unwind,bot,goexitEntry,Frame.catches]
 rfl
theorem XP (ba bl bf:Nat) (w:World):stepG Tryz.prog false (born Tryz.prog (call85 ba bl bf)) w =
  .go (G (P7.at ⟨#[.pointer (some ⟨ba,0,none⟩),.pointer (some ⟨bl,0,none⟩),.pointer (some ⟨bf,0,none⟩),undef,undef,undef,undef,undef,undef,undef,undef,undef,undef],[]⟩ [.code CB]) [bot]) w #[]:=by
 simp[born,call85,stepG,unwind,callDeferred,invoke,callFunc,Tryz.func104,Tryz.f104,seen,GStep.after,G,Frame.enter,Frame.at,P7,bot,CB]
set_option maxRecDepth 100000 in
theorem Lu (hP:Plain Tryz.prog) {ba bl bf cf cl:Nat} {da:Wk} (oF:da.ok)
  (ha:er γ w ba da) (hf:aT γ w ⟨bf,0,none⟩ (.chan (some cf))) (hl:aT γ w ⟨bl,0,none⟩ (.chan (some cl))) :
  Pr Tryz.prog af false (Dx cf cl (.bool false) false da.aQ.length) γ (born Tryz.prog (call85 ba bl bf)) w:=by
 have C:=wv (af:=af) (main:=false) hP
 have hne:=yG (cf:=cf) (cl:=cl) (z2 := .bool false) (mG:=false) da.aQ.length
 suffices h:KG Tryz.prog af false (Dx cf cl (.bool false) false da.aQ.length,γ) (born Tryz.prog (call85 ba bl bf)) w from h (fun _=>hne.1) hne.2
 refine C.go (fr:=(born Tryz.prog (call85 ba bl bf)).frame) (cs:=[]) (fun w=>XP ba bl bf w) ?_
 show KG Tryz.prog af false _ (G (P7.at _ (.code (.seq X85 UO)::[])) [bot]) w
 refine C.go (fun w=>stepG_seq) ?_
 refine FQ hP oF ha hf hl P7 [.code UO] [bot] rfl (by simp[P7]) ?_
 rintro⟨p',γ'⟩ e a' w' ⟨rfl,od,TF,Ai,hsz',ht2⟩
 simp only at od TF
 subst od
 show KG Tryz.prog af false _ (G (P7.at a' (.code (.region _ _ false)::[])) [bot]) w'
 refine C.go (fun w=>stepG_region) ?_
 refine I7 C (yG _).1 (v := .chan (some cf)) rfl (by rfl) (by simp[P7]) (fun w₁ h₁=>⟨run_eq_of fun K hK => ?_,?_⟩) ?_
 ·have hc:=(TF.rely h₁).2
  clear hsz'
  go_simp
  exact hK
 ·have hc:=(TF.rely h₁).2
  intro e he
  simp[go_sem,hc,ht2] at he
  subst he
  exact(TF.rely h₁).Dw
 ·refine AO abJ rfl (by rfl) rfl ?_ (by simp[P7]) ⟨4,QuitsD.of_quitsIn (Sa _ (by exact Ai) _)⟩
  simp[Act.eval,Act.put,hsz']
end Go.Co
end
section
namespace Go.Co
open Go Go.Conc Go.Proofs
open Classical
variable {P:Program} {af:Machine→Trace→Prop} {γ:So} {w:World}
theorem Fs {b:Nat}:γ.give.all b↔γ.all b:=⟨fun h=>h.elim id fun h=>h.elim,.inl⟩
theorem aT.give {ad:Addr} {v:Value} (h:aT γ w ad v):aT γ.give w ad v:=⟨Fs.2 h.1,h.2⟩
theorem uQ.give {v:Value} {l:List Int} (h:uQ γ w v l):uQ γ.give w v l:=by
 obtain⟨A,cap,rfl,h⟩:=h
 exact⟨A,cap,rfl,fun i x hx=>by obtain⟨ad,h1,h2⟩:=h i x hx; exact⟨ad,h1,h2.give⟩⟩
theorem er.give {b:Nat} {d:Wk} (h:er γ w b d):er γ.give w b d :=
 ⟨h.bH.give,h.aQ.imp fun _ ⟨h1,h2⟩=>⟨h1.give,h2.give⟩,fun i hi=>(h.up i hi).imp fun _ ⟨h1,h2⟩=>⟨h1.give,h2.give⟩,fun i hi=>(h.lo i hi).imp fun _ ⟨h1,h2⟩=>⟨h1.give,h2.give⟩⟩
theorem Kept.put {γ0:So} {w0:World} {ad:Addr} {v:Value} (k:Kept γ0 w0 γ w) (h:w0.heap.size≤ad.block):Kept γ0 w0 γ (w.setCell ad v) :=
 ⟨k.shr,k.own,fun b hb hlt=>(heap_setCell_other _ _ _ _ (by omega)).trans (k.blk b hb hlt),by rw[World.size_setCell]; exact k.size,k.env⟩
structure DN (A:Nat→Prop) (B0:Nat) (w0:World) (γ:So) (w:World):Prop where
 lt:∀ b,A b→b<B0
 all:∀ b,A b→γ.all b
 blk:∀ b,A b→w.heap[b]? = w0.heap[b]?
 size:B0≤w.heap.size
 env:w.os=w0.os∧w.output=w0.output
theorem DN.kept {A:Nat→Prop} {B0:Nat} {w0 w':World} {γ':So} (h:DN A B0 w0 γ w) (k:Kept γ w γ' w'):DN A B0 w0 γ' w' :=
 ⟨h.lt,fun b hb=>k.all (h.all b hb),fun b hb=>(k.blk b (h.all b hb) (Nat.lt_of_lt_of_le (h.lt b hb) h.size)).trans (h.blk b hb),Nat.le_trans h.size k.size,k.env.1.trans h.env.1,k.env.2.trans h.env.2⟩
theorem DN.give {A:Nat→Prop} {B0:Nat} {w0:World} (h:DN A B0 w0 γ w):DN A B0 w0 γ.give w:=⟨h.lt,fun b hb=>Fs.2 (h.all b hb),h.blk,h.size,h.env⟩
structure Fx (da db:Wk) (b2 b3 b5 b6 cf cl:Nat) (γ:So) (w:World):Prop where
 wa:er γ w b2 da
 wb:er γ w b3 db
 f:aT γ w ⟨b5,0,none⟩ (.chan (some cf))
 l:aT γ w ⟨b6,0,none⟩ (.chan (some cl))
theorem Fx.kept {da db:Wk} {b2 b3 b5 b6 cf cl:Nat} {γ':So} {w':World} (h:Fx da db b2 b3 b5 b6 cf cl γ w) (k:Kept γ w γ' w'):Fx da db b2 b3 b5 b6 cf cl γ' w':=⟨h.wa.kept k,h.wb.kept k,k.sees h.f,k.sees h.l⟩
theorem Fx.give {da db:Wk} {b2 b3 b5 b6 cf cl:Nat} (h:Fx da db b2 b3 b5 b6 cf cl γ w):Fx da db b2 b3 b5 b6 cf cl γ.give w:=⟨h.wa.give,h.wb.give,h.f.give,h.l.give⟩
def Ix (b2 b3 b5 b6:Nat) (u:Nat→Value):Act :=
 ⟨#[u 0,u 1,.pointer (some ⟨b2,0,none⟩),.pointer (some ⟨b3,0,none⟩),u 4,.pointer (some ⟨b5,0,none⟩),.pointer (some ⟨b6,0,none⟩),u 7,u 8,u 9,u 10,u 11,u 12,u 13,u 14,u 15,u 16,u 17,u 18,u 19,u 20,u 21,u 22,u 23,u 24,u 25,u 26,u 27,u 28,u 29,u 30,u 31,u 32,u 33,u 34],[]⟩
def Eh (b2 b3 b5 b6:Nat) (vl:Value) (nl k:Nat) (u:Nat→Value):Act :=
 ⟨#[u 0,u 1,.pointer (some ⟨b2,0,none⟩),.pointer (some ⟨b3,0,none⟩),u 4,.pointer (some ⟨b5,0,none⟩),.pointer (some ⟨b6,0,none⟩),u 7,u 8,u 9,u 10,u 11,u 12,u 13,u 14,vl,.int .i64 nl,.int .i64 k,u 18,u 19,u 20,u 21,u 22,u 23,u 24,u 25,u 26,u 27,u 28,u 29,u 30,u 31,u 32,u 33,u 34],[]⟩
def acU (b2 b3 b5 b6 cf:Nat) (out:Value) (u:Nat→Value):Act :=
 ⟨#[u 0,u 1,.pointer (some ⟨b2,0,none⟩),.pointer (some ⟨b3,0,none⟩),u 4,.pointer (some ⟨b5,0,none⟩),.pointer (some ⟨b6,0,none⟩),u 7,u 8,out,u 10,u 11,u 12,u 13,u 14,u 15,u 16,u 17,u 18,u 19,u 20,u 21,u 22,u 23,.chan (some cf),u 25,u 26,u 27,u 28,u 29,u 30,u 31,u 32,u 33,u 34],[]⟩
noncomputable def XR:Code:=Tryz.f60.body.getD .skip
noncomputable def nH:Code:=match XR with | .seq _ (.seq _ (.seq _ x))=>x | _ => .skip
noncomputable def aaa:Code:=match nH with | .seq x _=>x | _ => .skip
theorem Fg {cf cl:Nat} {tv z2:Value} {mG:Bool} {K:Nat} {p:Pc} (todo:List (List Value)):chain cf cl tv z2 mG K p todo ≠ .ret∧chain cf cl tv z2 mG K p todo ≠ .stop:=by cases todo<;>simp[chain]
def acL (da db:Wk) (b2 b3 b5 b6 cf cl:Nat) (K:Nat) (p:Pc) (A:Nat→Prop) (B0:Nat) (w0:World) (γ':Gm) (e:Exit) (a':Act) (w':World):Prop :=
 e = .normal∧γ'.1=chain cf cl (.bool true) (.bool false) false K p []∧DN A B0 w0 γ'.2 w'∧Fx da db b2 b3 b5 b6 cf cl γ'.2 w'∧(∀ b,A b→γ'.2.1 b∨γ'.2.2 b)∧∃ vl nl k u,a'=Eh b2 b3 b5 b6 vl nl k u
set_option maxRecDepth 100000 in
set_option maxHeartbeats 2000000 in
theorem WX (hP:Plain Tryz.prog) {b2 b3 b5 b6 cf cl:Nat} {da db:Wk} (oF:da.ok) (vY:db.ok) {K:Nat} {p:Pc} {A:Nat→Prop} {B0:Nat} {w0:World} (hS:DN A B0 w0 γ w) (hF:Fx da db b2 b3 b5 b6 cf cl γ w) (u:Nat→Value) :
  KJ (KG Tryz.prog af true) 60 (chain cf cl (.bool true) (.bool false) false K p (da.aQ.map fun x=>msgs da db x db.aQ),γ) aaa (acL da db b2 b3 b5 b6 cf cl K p A B0 w0) (Ix b2 b3 b5 b6 u) w:=by
 have C:=wv (af:=af) (main:=true) hP
 have hp:∀ todo,chain cf cl (.bool true) (.bool false) false K p todo ≠ .ret:=fun todo=>(Fg todo).1
 obtain⟨v0,JM,AA,cap,rfl,hA⟩:=hF.wa.aQ
 have hI:uQ γ w (.slice AA da.aQ.length cap) da.aQ:=⟨AA,cap,rfl,hA⟩
 have ZO:=oF.Zi
 unfold Ix
 refine aM C (bz C ?_)
 refine aj C ?_
 try walk_nrm
 refine aj C ?_
 try walk_nrm
 refine gp C (hp _) JM ?_
 try walk_nrm
 refine aj C ?_
 try walk_nrm
 refine aj C ?_
 try walk_nrm
 refine aG C ?_
 co_then
 refine eA C ?_
 clear JM hA
 refine lG C (fun n γ' a w'=>∃ γ3 k,γ'=(chain cf cl (.bool true) (.bool false) false K p ((da.aQ.drop k).map fun x=>msgs da db x db.aQ),γ3)∧DN A B0 w0 γ3 w'∧Fx da db b2 b3 b5 b6 cf cl γ3 w'∧uQ γ3 w' (.slice AA da.aQ.length cap) da.aQ∧k≤da.aQ.length∧n=da.aQ.length-k∧∃ u,a=Eh b2 b3 b5 b6 (.slice AA da.aQ.length cap) da.aQ.length k u) (n:=da.aQ.length) ⟨γ,0,rfl,hS,hF,hI,by omega,by omega,lN rfl⟩ ?_
 clear hS hF hI
 rintro n γ' a w' ⟨γ3,k,hγ,hS,hF,hI,hk,hn,u,As⟩
 subst hγ
 unfold Eh at As
 subst As
 refine aM C (bz C ?_)
 by_cases hlt:k<da.aQ.length
 ·have Vi:decide ((k:Int)<(da.aQ.length:Int))=true:=by simpa using hlt
  obtain⟨x,hx⟩:∃ x,da.aQ[k]? = some x:=⟨_,List.getElem?_eq_getElem hlt⟩
  have hxb:=oF.aQ k x hx
  obtain⟨ad,rfl,X9⟩:∃ ad,AA=some ad∧aT γ3 w' (ad.add k) (.int .i64 x):=by
   obtain⟨A2,oA,he,h2⟩:=hI
   cases he
   exact h2 k x hx
  have Na:da.aQ.drop k=x::da.aQ.drop (k+1):=by
   rw[List.drop_eq_getElem_cons hlt]
   congr 1
   exact Option.some.inj ((List.getElem?_eq_getElem hlt).symm.trans hx)
  have hw5:IntKind.i64.wrap ((k:Int)+1)=(k:Int)+1:=by rw[rI]<;>omega
  refine aj C ?_
  try walk_nrm
  refine aG C ?_
  co_then
  refine aM C (cr C (t:=true) rfl ?_)
  simp only[if_true]
  refine ir C ?_
  co_then
  refine aM C (eA C (aM C (bz C ?_)))
  refine aj C ?_
  try walk_nrm
  refine gp C (hp _) X9 ?_
  try walk_nrm
  refine mB C (hp _) (ob := ?ob9) rfl (by rfl) (fun w=>run_eq_of fun K hK => ?r9) (fun w => ?e9) ?h9
  case r9=>go_simp; exact hK
  case e9=>simp[go_sem]
  intro w5 Qk
  try walk_nrm
  have H6:=(Kept.rely Qk).trans (Kept.alloc γ3 w5 w5.heap.size (.cells #[.int .i64 0] 3))
  have UX:(w5.alloc (.cells #[.int .i64 0] 3)).frozen? ⟨w5.heap.size,0,none⟩=false:=World.frozen?_alloc_new _ _ _ _
  have U5:aT _ _ ⟨w5.heap.size,0,none⟩ (.int .i64 0):=aT.fresh (γ:=γ3) (w:=w5) (cs:=#[.int .i64 0]) (t:=3) rfl rfl
  have LS:(γ3.more w5.heap.size).2 w5.heap.size := .inr rfl
  have Gq:w'.heap.size≤w5.heap.size:=Qk.1
  generalize w5.alloc (.cells #[.int .i64 0] 3)=w6 at *
  generalize γ3.more w5.heap.size=γ6 at *
  generalize w5.heap.size=b8 at *
  clear X9 Qk
  refine GL C (hp _) (ad:=⟨b8,0,none⟩) (v := .int .i64 x) rfl (by rfl) LS (fun w₁ h₁=>⟨?_,?_⟩) ?_
  ·have hc:=(U5.rely h₁).2
   have hz:w₁.frozen? ⟨b8,0,none⟩=false:=(World.frozen?_of_block (h₁.2.1 b8 (.inr LS))).trans UX
   refine(?_:∀ K:Result Next→Prop,K (.ok .skip (w₁.setCell ⟨b8,0,none⟩ (.int .i64 x)))→K _) (· = _) rfl
   intro K hK
   go_simp
   try (unfold stored; go_simp)
   exact hK
  ·have hc:=(U5.rely h₁).2
   have hz:w₁.frozen? ⟨b8,0,none⟩=false:=(World.frozen?_of_block (h₁.2.1 b8 (.inr LS))).trans UX
   intro e he
   simp[go_sem,hc,hz] at he
   exact he
  intro w7 r7
  try walk_nrm
  have P3:=(H6.trans (Kept.rely r7)).put (ad:=⟨b8,0,none⟩) (v := .int .i64 x) Gq
  have hx7:aT γ6 (w7.setCell ⟨b8,0,none⟩ (.int .i64 x)) ⟨b8,0,none⟩ (.int .i64 x):=⟨.inr LS,World.cell?_setCell_same _ _ _ (U5.rely r7).2⟩
  generalize w7.setCell ⟨b8,0,none⟩ (.int .i64 x)=w8 at *
  clear U5 UX r7 H6 Gq
  have hF8:=hF.kept P3
  have hS8:=hS.kept P3
  have hI8:=P3.B2 hI
  clear hF hS hI P3
  refine aG C ?_
  co_then
  refine bz C ?_
  refine cD C (v := ?v10) rfl (by rfl) (fun w=>run_eq_of fun K hK => ?r10) (fun w => ?e10) ?uU
  case r10=>go_simp; exact hK
  case e10=>simp[go_sem,Instr.makeFunc]
  try walk_nrm
  rw[Na,List.map_cons]
  show KO _ _ (Pc.go (wk cf cl (.bool true) (msgs da db x db.aQ)) (chain cf cl (.bool true) (.bool false) false K p ((da.aQ.drop (k+1)).map fun x=>msgs da db x db.aQ)),γ6) _ _ _ _ _
  refine Up (d:=call84 b3 b2 b8 b5 b6) (f := .func 102) (cap:=#[.pointer (some ⟨b3,0,none⟩),.pointer (some ⟨b2,0,none⟩),.pointer (some ⟨b8,0,none⟩),.pointer (some ⟨b5,0,none⟩),.pointer (some ⟨b6,0,none⟩)]) rfl (by rfl) (fun w => ?_) (fun w => ?_) rfl (Fg _).2 (fun _=>hp _) (fun w9 r9 w10 r10 => ?_) (fun w9 r9 w10 r10 => ?_)
  ·simp[execOp,resolve,Act.eval,call84,Deferred.ofValue]
  ·simp[execOp,resolve,Act.eval,Deferred.ofValue]
  ·have hk:=(Kept.rely r9)
   have pZ:=(Kept.rely r10)
   have JR:=((hF8.kept hk).give).kept pZ
   exact Ke hP oF vY hxb.1 (by omega) JR.wa JR.wb (pZ.sees (hk.sees hx7).give) JR.f JR.l
  have JR:=((hF8.kept (Kept.rely r9)).give).kept (Kept.rely r10)
  have hS9:=((hS8.kept (Kept.rely r9)).give).kept (Kept.rely r10)
  have hI9:=(Kept.rely r10).B2 ((Kept.rely r9).B2 hI8).give
  clear hF8 hS8 hI8 hx7
  try walk_nrm
  refine aG C ?_
  co_then
  refine bz C ?_
  refine aj C ?_
  try walk_nrm
  refine aj C ?_
  try walk_nrm
  refine aG C (cO ?_)
  exact⟨da.aQ.length-(k+1),by omega,_,k+1,rfl,hS9,JR,hI9,by omega,rfl,lN rfl⟩
 ·have HZ:k=da.aQ.length:=by omega
  subst HZ
  have Vi:decide ((da.aQ.length:Int)<(da.aQ.length:Int))=false:=by simp
  simp only[List.drop_length,List.map_nil]
  refine aj C ?_
  try walk_nrm
  refine aG C ?_
  co_then
  refine aM C (cr C (t:=false) rfl ?_)
  simp only[Bool.false_eq_true,if_false]
  refine kE C ?_
  co_then
  exact⟨rfl,rfl,hS,hF,hS.all,_,_,_,lN (F:=fun u=>Eh b2 b3 b5 b6 (.slice AA da.aQ.length cap) da.aQ.length da.aQ.length u) rfl⟩
end Go.Co
end
section
namespace Go.Co
open Go Go.Conc Go.Proofs
open Classical
variable {P:Program} {af:Machine→Trace→Prop} {main:Bool} {K:Gm→Goroutine→World→Prop} {fn:FuncId} {p:Pc} {γ:So} {Q:Gm→Exit→Act→World→Prop} {a:Act} {w:World} {ops:Array Oper} {i:Nat} {rest:List Nat} {o:Oper}
theorem SA (C:KC P main K xG B7) (hp:p ≠ .ret) {b:Nat} {x y z:Value} (ho:ops[i]? = some o) (hw:Region.wanted o (yielded ops a.tmps)=true) (hO:γ.2 b)
  (hrun:∀ w₁,gb γ w w₁→(execOp a.eval o).run P w₁ = .ok .skip (((w₁.setCell ⟨b,0,none⟩ x).setCell ⟨b,1,none⟩ y).setCell ⟨b,2,none⟩ z)∧∀ e∈(execOp a.eval o).events P w₁ #[],∃ j,e=⟨.cell ⟨b,j,none⟩,true,false⟩)
  (h:∀ w₁,gb γ w w₁→KO K fn (p,γ) ops rest Q (a.put o.dst undef) (((w₁.setCell ⟨b,0,none⟩ x).setCell ⟨b,1,none⟩ y).setCell ⟨b,2,none⟩ z)):KO K fn (p,γ) ops (i::rest) Q a w :=
 tW C ho hw fun w₁ r=>by
  obtain⟨h1,h2⟩:=hrun w₁ (Ql hp r)
  rw[h1]
  have hsz:(((w₁.setCell ⟨b,0,none⟩ x).setCell ⟨b,1,none⟩ y).setCell ⟨b,2,none⟩ z).heap.size=w₁.heap.size:=by rw[World.size_setCell,World.size_setCell,World.size_setCell]
  refine⟨(p,γ),YB hp ⟨rfl,fun c=>⟨.inl,fun h=>h.elim id fun h=>absurd h.2 (by omega)⟩,by omega,fun c _ hn => ?_,rfl,rfl,rfl,fun e he => ?_⟩,h w₁ (Ql hp r)⟩
  ·have hne:c≠b:=fun e=>hn (e▸hO)
   rw[heap_setCell_other _ _ _ _ hne,heap_setCell_other _ _ _ _ hne,heap_setCell_other _ _ _ _ hne]
  ·obtain⟨j,rfl⟩:=h2 e (mem_listed he)
   exact .inl ⟨_,true,false,rfl,fun _=>hO,.inr hO⟩
theorem DN.append {A:Nat→Prop} {B0:Nat} {w0 w':World} {γ':So} {v:Value} (h:DN A B0 w0 γ w) (h1:γ'.1=γ.1) (h2:∀ b,γ.2 b→γ'.2 b) (h3:w.heap.size≤w'.heap.size)
  (h4:∀ b,γ.all b→b<w.heap.size→some b≠v.ownBlock→w'.heap[b]? = w.heap[b]?) (h5:w'.os=w.os∧w'.output=w.output) (hb:∀ b,v.ownBlock=some b→B0≤b):DN A B0 w0 γ' w' :=
 ⟨h.lt,fun b hlt=>(h.all b hlt).imp (by rw[h1]; exact id) (h2 b),fun b hlt=>(h4 b (h.all b hlt) (Nat.lt_of_lt_of_le (h.lt b hlt) h.size) fun e=>by have:=hb b e.symm; have:=h.lt b hlt; omega).trans (h.blk b hlt),Nat.le_trans h.size h3,h5.1.trans h.env.1,h5.2.trans h.env.2⟩
abbrev Sm:=Int×Int×Int
def qH (m:Sm):Value:=wh m.1 m.2.1 m.2.2
def nA (m:Sm):List Value:=[.int .i64 m.1,.int .i64 m.2.1,.int .i64 m.2.2]
theorem Ds {id:Nat} {R:Exit→Act→World→Prop} (h:R .normal a w):Exit.inBlock id R .normal a w:=h
theorem CM (l:List Sm):(l.flatMap nA).length=l.length*3:=by
 induction l with
 | nil=>rfl
 | cons m l ih=>simp only[List.flatMap_cons,List.length_append,ih,nA,List.length_cons,List.length_nil]; omega
theorem RN {m m':Sm} (h:qH m=qH m'):m=m':=by
 obtain⟨a,b,c⟩:=m
 obtain⟨a',b',c'⟩:=m'
 simp[qH,wh] at h
 obtain⟨rfl,rfl,rfl⟩:=h
 rfl
theorem BQ (m:Sm):∀ l:List Sm,(l.map qH).erase (qH m)=(l.erase m).map qH
 | []=>rfl
 | a::l=>by
  rw[List.map_cons,List.erase_cons,List.erase_cons]
  by_cases h:a=m
  ·subst h; simp
  ·have h2:¬ qH a=qH m:=fun e=>h (RN e)
   simp[h,h2,BQ m l]
theorem SS (cf:Nat) (z:Value):xF cf z [] = .recv cf true z fun x=>match x with | some _ => .bad | none => .ret:=rfl
theorem PB (cf:Nat) (z v0:Value) (vs:List Value):xF cf z (v0::vs) = .recv cf true z fun x=>match x with | some v=>if v∈v0::vs then xF cf z ((v0::vs).erase v) else .bad | none => .bad:=by
 unfold xF
 show Pc.recv cf true z (fun x=>match x with | some v=>if v∈v0::vs then Q7 cf z vs.length ((v0::vs).erase v) else .bad | none => .bad)=_
 congr 1
 funext x
 cases x with
 | none=>rfl
 | some v =>
  simp only
  split
  ·rename_i h
   rw[List.length_erase_of_mem h]
   rfl
  ·rfl
def Ni (out:Value) (u:Nat→Value):Act :=
 ⟨#[u 0,u 1,u 2,u 3,u 4,u 5,u 6,u 7,u 8,out,u 10,u 11,u 12,u 13,u 14,u 15,u 16,u 17,u 18,u 19,u 20,u 21,u 22,u 23,u 24,u 25,u 26,u 27,u 28,u 29,u 30,u 31,u 32,u 33,u 34],[]⟩
def Iy (cf:Nat) (out:Value) (u:Nat→Value):Act :=
 ⟨#[u 0,u 1,u 2,u 3,u 4,u 5,u 6,u 7,u 8,out,u 10,u 11,u 12,u 13,u 14,u 15,u 16,u 17,u 18,u 19,u 20,u 21,u 22,u 23,.chan (some cf),u 25,u 26,u 27,u 28,u 29,u 30,u 31,u 32,u 33,u 34],[]⟩
def Wn (A:Nat→Prop) (B0:Nat) (w0:World) (R:List Sm) (γ':Gm) (e:Exit) (a':Act) (w':World):Prop :=
 e = .normal∧γ'.1 = .ret∧DN A B0 w0 γ'.2 w'∧∃ (got:List Sm) (out:Value),got.Perm R∧w'.ownsRow B0 79 3 out got.length (got.flatMap nA)∧∃ u,a'=Ni out u
noncomputable def Nt:Code:=match nH with | .seq _ (.seq _ (.seq _ (.seq (.seq _ x) _)))=>x | _ => .skip
set_option maxRecDepth 100000 in
set_option maxHeartbeats 2000000 in
theorem PA (hP:Plain Tryz.prog) {cf:Nat} {A:Nat→Prop} {B0:Nat} {w0:World} {R:List Sm} (hR:R.length≤4294967296) (hS:DN A B0 w0 γ w) (u:Nat→Value) :
  KJ (KG Tryz.prog af true) 60 (xF cf (.agg #[.int .i64 0,.int .i64 0,.int .i64 0]) (R.map qH),γ) Nt (Wn A B0 w0 R) (Iy cf (.slice none 0 0) u) w:=by
 have C:=wv (af:=af) (main:=true) hP
 obtain⟨i0,x4,DD,LI,X4⟩:=info_parts GN
 have hzv:∀ w,(zeroValue 79).run Tryz.prog w = .ok (.agg #[.int .i64 0,.int .i64 0,.int .i64 0]) w:=fun w=>by simp[zeroValue,typeInfo,x4,DD]
 have hze:∀ w es,(zeroValue 79).events Tryz.prog w es=es:=fun w es=>by simp[zeroValue,typeInfo,x4,DD]
 have hrun:∀ (T:Act) (o:Oper) (w:World),o.op = .recv 136 (.tmp 24) true→T.eval (.tmp 24) = .chan (some cf)→(execOp T.eval o).run Tryz.prog w = .ok (.comm #[rcase cf (.agg #[.int .i64 0,.int .i64 0,.int .i64 0])] true (.recv true)) w:=by
  intro T o w ho hT
  simp[execOp,ho,run_underlying Tryz.underlying136,hzv,rcase,hT]
 have qa:∀ (T:Act) (o:Oper) (w:World),o.op = .recv 136 (.tmp 24) true→(execOp T.eval o).events Tryz.prog w #[]=#[]:=by
  intro T o w ho
  simp[execOp,ho,run_underlying Tryz.underlying136,hze]
 refine eA C ?_
 refine lG C (fun n γ' a w'=>∃ (γ3:So) (rem got:List Sm) (out:Value),γ'=(xF cf (.agg #[.int .i64 0,.int .i64 0,.int .i64 0]) (rem.map qH),γ3)∧DN A B0 w0 γ3 w'∧iQ γ3 w' B0 79 3 out got.length (got.flatMap nA)∧(got++rem).Perm R∧n=rem.length∧∃ u,a=Iy cf out u) (n:=R.length) ⟨γ,R,[],.slice none 0 0,rfl,hS,iQ.nil _ _ _,by simp,rfl,u,rfl⟩ ?_
 clear hS
 rintro n γ' a w' ⟨γ3,rem,got,out,hγ,hS,dN,M6,hn,u,As⟩
 subst hγ
 unfold Iy at As
 subst As
 have hlen:got.length+rem.length≤4294967296:=by
  have h1:=M6.length_eq
  rw[List.length_append] at h1
  omega
 refine aM C (bz C ?_)
 cases rem with
 | nil =>
  simp only[List.map_nil]
  rw[SS]
  refine C2 rfl (by rfl) (fun w=>hrun _ _ w rfl rfl) (fun w=>qa _ _ w rfl) (fun x=>by cases x<;>simp) (fun h=>by cases h) (fun x w7 r7 => ?_)
  cases x with
  | some v=>exact Cv
  | none =>
   have hS7:=hS.kept (Kept.rely r7)
   have A8:=dN.rely r7
   simp only[Option.getD_none,Option.isSome_none,recvd]
   try walk_nrm
   refine aj C ?_
   try walk_nrm
   refine aG C ?_
   co_then
   refine aM C (cr C (t:=false) rfl ?_)
   simp only[Bool.false_eq_true,if_false]
   refine kE C ?_
   co_then
   exact⟨rfl,rfl,hS7,got,out,by simpa using M6,A8.1,lN (F:=fun u=>Ni out u) rfl⟩
 | cons m0 ms =>
  simp only[List.map_cons]
  rw[PB]
  refine C2 rfl (by rfl) (fun w=>hrun _ _ w rfl rfl) (fun w=>qa _ _ w rfl) (fun x => ?_) (fun h=>by cases h) (fun x w7 r7 => ?_)
  ·cases x with
   | none=>simp
   | some v =>
    simp only
    split
    ·obtain⟨q,hq⟩:=qD (cf:=cf) (z := .agg #[.int .i64 0,.int .i64 0,.int .i64 0]) ((qH m0::ms.map qH).erase v)
     rw[hq]; simp
    ·simp
  cases x with
  | none=>exact Cv
  | some v =>
   simp only
   by_cases hv:v∈qH m0::ms.map qH
   ·rw[if_pos hv]
    obtain⟨m,hm,rfl⟩:∃ m,m∈m0::ms∧qH m=v:=by
     have:v∈(m0::ms).map qH:=hv
     exact List.mem_map.1 this
    have abY:(qH m0::ms.map qH).erase (qH m)=((m0::ms).erase m).map qH:=BQ m (m0::ms)
    rw[abY]
    have Yd:=List.perm_cons_erase hm
    have yt:=List.length_erase_of_mem hm
    generalize (m0::ms).erase m=QL at *
    obtain⟨x,y,s⟩:=m
    have hp:xF cf (.agg #[.int .i64 0,.int .i64 0,.int .i64 0]) (QL.map qH) ≠ .ret:=by
     obtain⟨q,hq⟩:=qD (cf:=cf) (z := .agg #[.int .i64 0,.int .i64 0,.int .i64 0]) (QL.map qH)
     rw[hq]; simp
    have hS7:=hS.kept (Kept.rely r7)
    have A8:=dN.rely r7
    clear hS dN
    simp only[Option.getD_some,Option.isSome_some,recvd,qH,wh]
    try walk_nrm
    refine aj C ?_
    try walk_nrm
    refine aG C ?_
    co_then
    refine aM C (cr C (t:=true) rfl ?_)
    simp only[if_true]
    refine ir C ?_
    co_then
    refine eA C (aM C (bz C ?_))
    refine aj C ?_
    try walk_nrm
    refine mB C hp (ob := ?ob4) rfl (by rfl) (fun w=>run_eq_of fun K hK => ?r4) (fun w => ?e4) ?h4
    case r4=>go_simp; exact hK
    case e4=>simp[go_sem]
    intro w5 Qk
    try walk_nrm
    have H6:=(Kept.rely Qk).trans (Kept.alloc γ3 w5 w5.heap.size (.cells #[.int .i64 0,.int .i64 0,.int .i64 0] 79))
    have UX:∀ j,(w5.alloc (.cells #[.int .i64 0,.int .i64 0,.int .i64 0] 79)).frozen? ⟨w5.heap.size,j,none⟩=false:=fun j=>World.frozen?_alloc_new _ _ _ _
    have h50:aT _ _ ⟨w5.heap.size,0,none⟩ (.int .i64 0):=aT.fresh (γ:=γ3) (w:=w5) (cs:=#[.int .i64 0,.int .i64 0,.int .i64 0]) (t:=79) rfl rfl
    have h51:aT _ _ ⟨w5.heap.size,1,none⟩ (.int .i64 0):=aT.fresh (γ:=γ3) (w:=w5) (cs:=#[.int .i64 0,.int .i64 0,.int .i64 0]) (t:=79) rfl rfl
    have h52:aT _ _ ⟨w5.heap.size,2,none⟩ (.int .i64 0):=aT.fresh (γ:=γ3) (w:=w5) (cs:=#[.int .i64 0,.int .i64 0,.int .i64 0]) (t:=79) rfl rfl
    have LS:(γ3.more w5.heap.size).2 w5.heap.size := .inr rfl
    have Gq:w7.heap.size≤w5.heap.size:=Qk.1
    generalize w5.alloc (.cells #[.int .i64 0,.int .i64 0,.int .i64 0] 79)=w6 at *
    generalize γ3.more w5.heap.size=γ6 at *
    generalize w5.heap.size=b8 at *
    clear Qk
    refine SA C hp (b:=b8) (x := .int .i64 x) (y := .int .i64 y) (z := .int .i64 s) rfl (by rfl) LS (fun w₁ h₁=>⟨?_,?_⟩) ?_
    ·have Y6:=(h50.rely h₁).2
     have Du:=(h51.rely h₁).2
     have uT:=(h52.rely h₁).2
     have hz:∀ j,w₁.frozen? ⟨b8,j,none⟩=false:=fun j=>(World.frozen?_of_block (h₁.2.1 b8 (.inr LS))).trans (UX j)
     refine(?_:∀ K:Result Next→Prop,K (.ok .skip (((w₁.setCell ⟨b8,0,none⟩ (.int .i64 x)).setCell ⟨b8,1,none⟩ (.int .i64 y)).setCell ⟨b8,2,none⟩ (.int .i64 s)))→K _) (· = _) rfl
     intro K hK
     go_simp
     try (unfold stored; go_simp)
     exact hK
    ·have Y6:=(h50.rely h₁).2
     have Du:=(h51.rely h₁).2
     have uT:=(h52.rely h₁).2
     have hz:∀ j,w₁.frozen? ⟨b8,j,none⟩=false:=fun j=>(World.frozen?_of_block (h₁.2.1 b8 (.inr LS))).trans (UX j)
     intro e he
     simp[go_sem,Y6,Du,uT,hz] at he
     rcases he with rfl | rfl | rfl
     ·exact⟨0,rfl⟩
     ·exact⟨1,rfl⟩
     ·exact⟨2,rfl⟩
    intro w9 r9
    try walk_nrm
    have hk9:=(((H6.trans (Kept.rely r9)).put (ad:=⟨b8,0,none⟩) (v := .int .i64 x) Gq).put (ad:=⟨b8,1,none⟩) (v := .int .i64 y) Gq).put (ad:=⟨b8,2,none⟩) (v := .int .i64 s) Gq
    have s0:aT γ6 (((w9.setCell ⟨b8,0,none⟩ (.int .i64 x)).setCell ⟨b8,1,none⟩ (.int .i64 y)).setCell ⟨b8,2,none⟩ (.int .i64 s)) ⟨b8,0,none⟩ (.int .i64 x) :=
     aT.put (aT.put ⟨.inr LS,World.cell?_setCell_same _ _ _ (h50.rely r9).2⟩ (by simp)) (by simp)
    have s1:aT γ6 (((w9.setCell ⟨b8,0,none⟩ (.int .i64 x)).setCell ⟨b8,1,none⟩ (.int .i64 y)).setCell ⟨b8,2,none⟩ (.int .i64 s)) ⟨b8,1,none⟩ (.int .i64 y) :=
     aT.put ⟨.inr LS,World.cell?_setCell_same _ _ _ ((h51.rely r9).put (by simp)).2⟩ (by simp)
    have s2:aT γ6 (((w9.setCell ⟨b8,0,none⟩ (.int .i64 x)).setCell ⟨b8,1,none⟩ (.int .i64 y)).setCell ⟨b8,2,none⟩ (.int .i64 s)) ⟨b8,2,none⟩ (.int .i64 s) :=
     ⟨.inr LS,World.cell?_setCell_same _ _ _ (((h52.rely r9).put (by simp)).put (by simp)).2⟩
    generalize ((w9.setCell ⟨b8,0,none⟩ (.int .i64 x)).setCell ⟨b8,1,none⟩ (.int .i64 y)).setCell ⟨b8,2,none⟩ (.int .i64 s)=w10 at *
    have ZV:=hS7.kept hk9
    have NQ:=A8.kept hk9
    clear hk9 H6 h50 h51 h52 UX r9 Gq hS7 A8 LS
    refine aG C ?_
    co_then
    refine bz C ?_
    refine aj C ?_
    try walk_nrm
    refine mA C hp (v := ?v6) rfl (by rfl) (fun w₁ h₁=>⟨run_eq_of fun K hK => ?r6,?e6⟩) ?h6
    case r6=>have Y6:=(aT.rely s0 h₁).2; have Du:=(aT.rely s1 h₁).2; have uT:=(aT.rely s2 h₁).2; go_simp; exact hK
    case e6 =>
     have Y6:=(aT.rely s0 h₁).2
     have Du:=(aT.rely s1 h₁).2
     have uT:=(aT.rely s2 h₁).2
     intro e he
     simp[go_sem,Y6,Du,uT] at he
     rcases he with rfl | rfl | rfl
     ·exact(aT.rely s0 h₁).Dw
     ·exact(aT.rely s1 h₁).Dw
     ·exact(aT.rely s2 h₁).Dw
    try walk_nrm
    refine NL C hp (ob := ?ob7) (n:=1) rfl (by rfl) (fun w=>run_eq_of fun K hK => ?r7) (fun w => ?e7) ?h7
    case r7=>go_simp; exact hK
    case e7=>simp[go_sem]
    intro LY abG
    try walk_nrm
    have VY:=(Kept.rely abG).trans (Kept.alloc γ6 LY LY.heap.size (.cells #[.int .i64 x,.int .i64 y,.int .i64 s] 79))
    have ab4:∀ (j:Nat) (u:Value),(nA (x,y,s))[j]? = some u→aT (γ6.more LY.heap.size) (LY.alloc (.cells #[.int .i64 x,.int .i64 y,.int .i64 s] 79)) ((⟨LY.heap.size,0,none⟩:Addr).add j) u:=by
     intro j u hu
     rw[Addr.add_lit]
     simp only[Nat.zero_add]
     refine aT.fresh (γ:=γ6) (w:=LY) rfl ?_
     simpa [nA] using hu
    have ZU:=ZV.kept VY
    have NP:=NQ.kept VY
    have XJ:(γ6.more LY.heap.size).all LY.heap.size := .inr (.inr rfl)
    generalize LY.alloc (.cells #[.int .i64 x,.int .i64 y,.int .i64 s] 79)=w12 at *
    generalize γ6.more LY.heap.size=γ12 at *
    generalize LY.heap.size=b12 at *
    clear ZV NQ s0 s1 s2 VY
    have vW:=CM got
    refine BF C hp (B:=B0) (news:=nA (x,y,s)) (m:=1) (c:=1) (ad:=⟨b12,0,none⟩) (n:=got.length) (xs:=got.flatMap nA) (v:=out) rfl (by rfl) rfl Tryz.underlying34 x4 DD LI X4 rfl (by decide) rfl rfl ZU.size NP rfl ab4 XJ (by simp[nA,Value.oneCell']) (by simp only[maxLen]; omega) (by omega) ?_
    intro v13 w13 γ13 Y0 Qs hg3 hg4 hg5 XE
    have acy:=ZU.append Y0 Qs hg3 hg4 hg5 (v:=out) (fun b hb=>(NP.1.lt b hb).1)
    try walk_nrm
    refine aj C ?_
    try walk_nrm
    refine aG C (Ds (cO ?_))
    refine⟨QL.length,by simp only[List.length_cons] at yt hn; omega,γ13,QL,got++[(x,y,s)],v13,rfl,acy,?_,?_,rfl,lN rfl⟩
    ·rw[List.length_append,List.flatMap_append]
     simpa using XE
    ·rw[List.append_assoc]
     exact(List.Perm.append_left got Yd.symm).trans M6
   ·rw[if_neg hv]
    exact Cv
end Go.Co
end
section
namespace Go.Co
open Go Go.Conc Go.Proofs
open Classical
variable {P:Program} {af:Machine→Trace→Prop} {γ:So} {w:World}
noncomputable def CD:Code:=match nH with | .seq _ (.seq _ (.seq _ (.seq _ x)))=>x | _ => .skip
noncomputable def abp:Code:=match nH with | .seq _ (.seq x _)=>x | _ => .skip
noncomputable def abo:Code:=match nH with | .seq _ (.seq _ (.seq x _))=>x | _ => .skip
noncomputable def X0:Code:=match nH with | .seq _ (.seq _ (.seq _ (.seq (.seq x _) _)))=>x | _ => .skip
def cW (da db:Wk):List Sm:=da.aQ.flatMap fun x=>db.aQ.flatMap fun y=>(eO da db x y).map fun s=>(x,y,s)
theorem Ji (da db:Wk) (x:Int):∀ ys:List Int,msgs da db x ys=(ys.flatMap fun y=>(eO da db x y).map fun s=>(x,y,s)).map qH
 | []=>rfl
 | y::ys=>by
  rw[Bv,Ji da db x ys,List.flatMap_cons,List.map_append,List.map_map]
  rfl
theorem SK (da db:Wk):(da.aQ.map fun x=>msgs da db x db.aQ).flatten=(cW da db).map qH:=by
 unfold cW
 induction da.aQ with
 | nil=>rfl
 | cons x l ih=>rw[List.map_cons,List.flatten_cons,ih,List.flatMap_cons,List.map_append,Ji]
theorem pQ {α β:Type} (f:α→List β) (c:Nat):∀ l:List α,(∀ x∈l,(f x).length≤c)→(l.flatMap f).length≤l.length*c
 | [],_=>by simp
 | a::l,h=>by
  have h1:=h a (by simp)
  have h2:=pQ f c l fun x hx=>h x (by simp[hx])
  rw[List.flatMap_cons,List.length_append,List.length_cons,Nat.add_mul]
  omega
theorem zC {da db:Wk} (oF:da.ok) (vY:db.ok):(cW da db).length≤4294967296:=by
 have h1:∀ x∈da.aQ,(db.aQ.flatMap fun y=>(eO da db x y).map fun s=>(x,y,s)).length≤1000*2001:=by
  intro x _
  refine Nat.le_trans (pQ _ 2001 _ fun y _ => ?_) (Nat.mul_le_mul_right _ vY.Zi)
  rw[List.length_map]
  have h2:=(vY.up y.toNat).1
  have h3:=(oF.lo x.toNat).1
  exact Nat.le_trans (CO _ _ _ _) (by omega)
 have h4:=pQ _ _ _ h1
 have h5:=Nat.mul_le_mul_right (1000*2001) oF.Zi
 unfold cW
 omega
set_option maxRecDepth 100000 in
set_option maxHeartbeats 1000000 in
theorem Se (hP:Plain Tryz.prog) {b2 b3 b5 b6 cf cl:Nat} {da db:Wk} (oF:da.ok) (vY:db.ok) {A:Nat→Prop} {B0:Nat} {w0:World} (hS:DN A B0 w0 γ w) (hF:Fx da db b2 b3 b5 b6 cf cl γ w) (u:Nat→Value) {Qf:Exit→Act→World→Prop}
  (hT:∀ γ' a' w',Wn A B0 w0 (cW da db) (.ret,γ') .normal a' w'→KJ (ff Tryz.prog af) 60 () CD (fun _=>Qf) a' w') :
  KJ (KG Tryz.prog af true) 60 (chain cf cl (.bool true) (.bool false) false da.aQ.length (xF cf (.agg #[.int .i64 0,.int .i64 0,.int .i64 0]) ((cW da db).map qH)) (da.aQ.map fun x=>msgs da db x db.aQ),γ) nH (fun γ' e a' w'=>γ'.1 = .ret∧Qf e a' w') (Ix b2 b3 b5 b6 u) w:=by
 have C:=wv (af:=af) (main:=true) hP
 have V1:xF cf (.agg #[.int .i64 0,.int .i64 0,.int .i64 0]) ((cW da db).map qH) ≠ .ret∧xF cf (.agg #[.int .i64 0,.int .i64 0,.int .i64 0]) ((cW da db).map qH) ≠ .stop:=by
  obtain⟨q,hq⟩:=qD (cf:=cf) (z := .agg #[.int .i64 0,.int .i64 0,.int .i64 0]) ((cW da db).map qH)
  rw[hq]; simp
 generalize JN:xF cf (.agg #[.int .i64 0,.int .i64 0,.int .i64 0]) ((cW da db).map qH)=pc at *
 show KJ _ _ _ (.seq aaa (.seq abp (.seq abo (.seq (.seq X0 Nt) CD)))) _ _ _
 refine aM C (tX (WX hP oF vY hS hF u) ?_)
 rintro⟨p',γ'⟩ e a' w' ⟨rfl,od,xE,hF',-,vl,nl,k,u',rfl⟩
 simp only at od xE hF'
 subst od
 unfold Eh
 refine aM C (bz C ?_)
 refine cD C (v := ?v1) rfl (by rfl) (fun w=>run_eq_of fun K hK => ?r1) (fun w => ?e1) ?h1
 case r1=>go_simp; exact hK
 case e1=>simp[go_sem,Instr.makeFunc]
 try walk_nrm
 show KO _ _ (Pc.go (Dx cf cl (.bool false) false da.aQ.length) pc,γ') _ _ _ _ _
 refine Up (d:=call85 b2 b6 b5) (f := .func 104) (cap:=#[.pointer (some ⟨b2,0,none⟩),.pointer (some ⟨b6,0,none⟩),.pointer (some ⟨b5,0,none⟩)]) rfl (by rfl) (fun w => ?_) (fun w => ?_) rfl V1.2 (fun _=>V1.1) (fun w9 r9 w10 r10 => ?_) (fun w9 r9 w10 r10 => ?_)
 ·simp[execOp,resolve,Act.eval,call85,Deferred.ofValue]
 ·simp[execOp,resolve,Act.eval,Deferred.ofValue]
 ·have JR:=((hF'.kept (Kept.rely r9)).give).kept (Kept.rely r10)
  exact Lu hP oF JR.wa JR.f JR.l
 have JR:=((hF'.kept (Kept.rely r9)).give).kept (Kept.rely r10)
 have hS9:=((xE.kept (Kept.rely r9)).give).kept (Kept.rely r10)
 have hf9:=JR.f
 clear hF' xE JR
 try walk_nrm
 refine aG C ?_
 co_then
 refine aM C (bz C ?_)
 refine aj C ?_
 try walk_nrm
 refine aG C ?_
 co_then
 refine aM C (aM C (bz C ?_))
 refine mA C V1.1 (v := ?v21) rfl (by rfl) (fun w₁ h₁=>⟨run_eq_of fun K hK => ?r21,?e21⟩) ?h21
 case r21=>have hc:=(aT.rely hf9 h₁).2; go_simp; exact hK
 case e21=>have hc:=(aT.rely hf9 h₁).2; intro e he; simp[go_sem,hc] at he; subst he; exact(aT.rely hf9 h₁).Dw
 try walk_nrm
 refine aG C ?_
 co_then
 subst JN
 refine(?_:∀ a',(∃ u,a'=Iy cf (.slice none 0 0) u)→KJ _ _ _ Nt _ a' _) _ (lN rfl)
 rintro a' ⟨u2,rfl⟩
 refine tX (PA hP (zC oF vY) hS9 u2) ?_
 rintro⟨p3,γ3⟩ e a3 w3 hE
 have he:=hE.1
 have hp3:=hE.2.1
 simp only at hp3
 subst he
 subst hp3
 refine(?_:KJ (KG Tryz.prog af true) 60 (.ret,γ3) CD (fun γ' e a' w'=>γ'.1 = .ret∧Qf e a' w') a3 w3)
 exact Pk (tX (hT γ3 a3 w3 hE) fun _ e a w q=>⟨rfl,q⟩)
end Go.Co
end
