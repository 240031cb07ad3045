import Derived.Test.YtadeehilamokkaaGreatDoorPk29
set_option maxHeartbeats 2000000
set_option maxRecDepth 100000
namespace Go.Co
open Go Go.Conc Go.Proofs
variable {aa:Machine->Trace->Prop} {γ:So} {w:World}
theorem Pe{P:Program}{main:Bool}{K:Gm->Goroutine->World->Prop}{p:Pc}{a:Act}{ops:Array Oper}{i:Nat}{rest:cx}{o:Oper}(C:KC P main K Ck Hp)(hp:p≠.ret){v:Value}{b:Frame}{k:List Item}{cs:List Frame}(ho:ops[i]? =some o)(hw:Region.wanted o (yielded ops a.tmps)=true)(hk:b.kind≠.early)
  (hrun:∀w₁,iL γ w w₁->(execOp a.eval o).run P w₁=.ok (.value v) w₁/\∀e∈(execOp a.eval o).events P w₁ #[],YO γ.1 γ.2 e) (h:K (p,γ) (G (b.at (a.put o.dst v) (.inRegion ops rest::k)) cs) w):K (p,γ) (G (b.at a (.inRegion ops (i::rest)::k)) cs) w:=
 C.step _ _ _ _ λw₁ r=>⟨_,_,_,_,(p,γ),stepG_value ho hw hk (hrun w₁ (Yo hp r)).1,stg hp ⟨rfl,J9 λe he=>(hrun w₁ (Yo hp r)).2 e (mem_listed he)⟩,C.rely _ _ _ _ r h⟩
theorem MU:(Tryz.prog.info? 79).map (λi=>(i.zero,i.size,i.bytes))=some (some (.agg #[.int .i64 0,.int .i64 0,.int .i64 0]),3,24):=by kernel_rfl
theorem Ls(w:World)(x y s:Int):(Instr.build 79 #[(0,.int .i64 x),(1,.int .i64 y),(2,.int .i64 s)]).run Tryz.prog w=.ok (.agg #[.int .i64 x,.int .i64 y,.int .i64 s]) w:=
 run_build w 79 _ _ (by kernel_rfl)
theorem E0(w:World)(es:Array Event)(x y s:Int):(Instr.build 79 #[(0,.int .i64 x),(1,.int .i64 y),(2,.int .i64 s)]).events Tryz.prog w es=es:=by obtain⟨i0,hi,G8,Oj,hz2⟩:=info_parts MU;obtain⟨i3,hi3,hy0,hy1,hy2⟩:=info_parts Oz;simp[Instr.build,run_underlying Tryz.underlying79,sizeOf,typeInfo,zeroValue,hi,G8,hi3,hy1];split<;>simp
noncomputable def HY:Code:=Tryz.f100.body.getD .skip
noncomputable def X84:Code:=match HY with|.seq x _=>x|_=>.skip
noncomputable def abR:Code:=match HY with|.seq _ r=>r|_=>.skip
theorem Gv(a b:Wk)(x y:Int)(ys:br):msgs a b x (y::ys)=(gF a b x y).map (A4 x y)++msgs a b x ys:=by simp[msgs]
def aic(cf cl bl:Nat)(tv:Value)(γ':Gm)(e:Exit)(a':Act)(w':World):Prop:=e=.normal/\γ'.1=wk cf cl tv []/\bF γ'.2 w' ⟨bl,0,none⟩ (.chan (some cl))/\a'.defers=[]/\a'.tmps.size=46/\a'.tmps[4]? =some (.pointer (some ⟨bl,0,none⟩))
theorem XB{bb ba bx bf bl:Nat}{vl:Value}{nl k:Nat}{y:Int}{v:Value}{m:Nat}{a:Act}(hd:a.defers=[])(hsz:a.tmps.size=46)(t0:a.tmps[0]? =some (.pointer (some ⟨bb,0,none⟩)))(t1:a.tmps[1]? =some (.pointer (some ⟨ba,0,none⟩)))(t2:a.tmps[2]? =some (.pointer (some ⟨bx,0,none⟩)))(t3:a.tmps[3]? =some (.pointer (some ⟨bf,0,none⟩)))(t4:a.tmps[4]? =some (.pointer (some ⟨bl,0,none⟩)))
  (t6:a.tmps[6]? =some (.int .i64 y)) (t11:a.tmps[11]? =some vl) (t12:a.tmps[12]? =some (.int .i64 nl)) (t13:a.tmps[13]? =some (.int .i64 k)) (t32:a.tmps[32]? =some v) (t33:a.tmps[33]? =some (.int .i64 m)) (t34:a.tmps[34]? =some (.int .i64 0)):∃u,a=UQ bb ba bx bf bl vl nl k y v m 0 u:=by
 obtain⟨T,df⟩:=a;simp only at hd hsz;subst hd;obtain⟨v0,v1,v2,v3,v4,v5,v6,v7,v8,v9,v10,v11,v12,v13,v14,v15,v16,v17,v18,v19,v20,v21,v22,v23,v24,v25,v26,v27,v28,v29,v30,v31,v32,v33,v34,v35,v36,v37,v38,v39,v40,v41,v42,v43,v44,v45,rfl⟩:=aaV T hsz;simp at t0 t1 t2 t3 t4 t6 t11 t12 t13 t32 t33 t34;subst t0 t1 t2 t3 t4 t6 t11 t12 t13 t32 t33 t34;exact pg rfl
theorem Lh(hP:Plain Tryz.prog){bb ba bx bf bl cf cl:Nat}{tv:Value}{da db:Wk}{x:Int}(wj:da.ok)(AV:db.ok)(Jl:0<=x)(hx3:x<4)
  (ha:fW γ w ba da) (hb:fW γ w bb db) (hx:bF γ w ⟨bx,0,none⟩ (.int .i64 x)) (hf:bF γ w ⟨bf,0,none⟩ (.chan (some cf))) (hl:bF γ w ⟨bl,0,none⟩ (.chan (some cl))):
  KJ (KG Tryz.prog aa false) 100 (wk cf cl tv (msgs da db x db.bp),γ) X84 (aic cf cl bl tv)
   ⟨#[.pointer (some ⟨bb,0,none⟩),.pointer (some ⟨ba,0,none⟩),.pointer (some ⟨bx,0,none⟩),.pointer (some ⟨bf,0,none⟩),.pointer (some ⟨bl,0,none⟩),undef,undef,undef,undef,undef,undef,undef,undef,undef,undef,undef,undef,undef,undef,undef,undef,undef,undef,undef,undef,undef,undef,undef,undef,undef,undef,undef,undef,undef,undef,undef,undef,undef,undef,undef,undef,undef,undef,undef,undef,undef],[]⟩ w:=by
 have C:=A8 (aa:=aa) (main:=false) hP;have hp:∀vs,wk cf cl tv vs≠.ret:=λvs=>(Ot vs).1;obtain⟨vl,hvl,A,cap,rfl,hA⟩:=hb.bp;have aeG:=AV.few;refine aW C (b7 C ?_);iterate 2 (refine av C ?_;try walk_nrm)
 refine iP C (hp _) hvl ?_;iterate 2 (try walk_nrm;refine av C ?_)
 try walk_nrm
 refine aT C ?_;co_then;refine gr C ?_;refine oS C (λn γ' a w'=>∃γ3 k,γ'=(wk cf cl tv (msgs da db x (db.bp.drop k)),γ3)/\Kept γ w γ3 w'/\k<=db.bp.length/\n=db.bp.length-k/\∃u,a=abM bb ba bx bf bl (.slice A db.bp.length cap) db.bp.length k u) (n:=db.bp.length) ⟨γ,0,rfl,Kept.refl _ _,U,U,pg rfl⟩ ?_;rintro n γ' a w' ⟨γ3,k,hγ,Cf,hk,hn,u,Hl⟩;subst hγ;unfold abM at Hl;subst Hl;refine aW C (b7 C ?_);by_cases hlt:k<db.bp.length
 .have YG:decide ((k:Int)<(db.bp.length:Int))=true:=by simpa using hlt
  obtain⟨y,hy⟩:∃y,db.bp[k]? =some y:=⟨_,bn hlt⟩;obtain⟨ad,hAe,hsA⟩:=hA k y hy;subst hAe;have hyb:=AV.bp k y hy;have UJ:db.bp.drop k=y::db.bp.drop (k+1):=by rw[rS hlt];congr 1;exact bM ((bn hlt).symm.trans hy)
  have hs3:=Cf.sees hsA;have hw5:IntKind.i64.wrap ((k:Int)+1)=(k:Int)+1:=by rw[wv]<;>omega
  refine av C ?_;try walk_nrm
  refine aT C ?_;co_then;refine aW C (dz C (t:=true) rfl ?_);simp only[if_true];refine j5 C ?_;co_then;refine aW C (gr C (aW C (b7 C ?_)));refine av C ?_;try walk_nrm
  refine iP C (hp _) hs3 ?_;try walk_nrm
  refine av C ?_;try walk_nrm
  refine aT C ?_;co_then;rw[UJ,Gv];clear hs3 hA;refine aW C (Z1 C (hp _) (ha.kept Cf) (hb.kept Cf) (Cf.sees hx) Jl hx3 hyb.1 U wj AV rfl rfl rfl rfl rfl rfl ?_);intro v γ4 a4 w4 YF aew hold h32 h33 h34 dO Mc;co_then;obtain⟨A2,sU,rfl,hA2⟩:=dO.G7;obtain⟨u4,ha4⟩:=XB (bb:=bb) (ba:=ba) (bx:=bx) (bf:=bf) (bl:=bl) (vl:=.slice (some ad) db.bp.length cap) (nl:=db.bp.length) (k:=k) YF aew (hold 0 U) (hold 1 U) (hold 2 U) (hold 3 U) (hold 4 U) (hold 6 U) (hold 11 U) (hold 12 U) (hold 13 U) h32 h33 h34;clear hold h32 h33 h34 YF aew dO;have ahy:=Cf.trans Mc;generalize YB:gF da db x y=l at*;refine gr C ?_;refine oS C (λn γ' a w'=>∃γ5 j,γ'=(wk cf cl tv ((l.drop j).map (A4 x y)++msgs da db x (db.bp.drop (k+1))),γ5)/\Kept γ4 w4 γ5 w'/\j<=l.length/\n=l.length-j/\∃u,a=UQ bb ba bx bf bl (.slice (some ad) db.bp.length cap) db.bp.length k y (.slice A2 l.length sU) l.length j u) (n:=l.length) ⟨γ4,0,rfl,Kept.refl _ _,U,U,u4,ha4⟩ ?_;clear ha4 Cf;rintro n2 γ' a w6 ⟨γ5,j,hγ,Ol,hj,hn2,u,ha5⟩;subst hγ;unfold UQ at ha5;subst ha5;have hk6:=ahy.trans Ol;refine aW C (b7 C ?_);by_cases Y5:j<l.length
  .have hd2:decide ((j:Int)<(l.length:Int))=true:=by simpa using Y5
   obtain⟨s,hs⟩:∃s,l[j]? =some s:=⟨_,bn Y5⟩;obtain⟨ad2,ahY,ahm⟩:=hA2 j s hs;subst ahY;have adS:l.drop j=s::l.drop (j+1):=by rw[rS Y5];congr 1;exact bM ((bn Y5).symm.trans hs)
   have hs5:=Ol.sees ahm;have hf5:=hk6.sees hf;have hx5:=hk6.sees hx;have hw6:IntKind.i64.wrap ((j:Int)+1)=(j:Int)+1:=by
    have h1:=(AV.up y.toNat).1;have h2:=(wj.lo x.toNat).1;have h3:l.length<=2001:=by rw[<-YB];exact bz (Ig _ _ _ _) U
    rw[wv]<;>omega
   refine av C ?_;try walk_nrm
   refine aT C ?_;co_then;refine aW C (dz C (t:=true) rfl ?_);simp only[if_true];refine j5 C ?_;co_then;refine aW C (gr C (aW C (b7 C ?_)));refine av C ?_;try walk_nrm
   refine iP C (hp _) hs5 ?_;try walk_nrm
   refine av C ?_;try walk_nrm
   refine aT C ?_;co_then;refine b7 C ?_;refine iP C (hp _) hf5 ?_;try walk_nrm
   refine iP C (hp _) hx5 ?_;iterate 2 (try walk_nrm;refine av C ?_)
   try walk_nrm
   have S9:=λw=>Ls w x y s;have Cg:=λw=>E0 w #[] x y s;refine dK C (v:=?v18) rfl (by rfl) (λw=>run_eq_of λK hK=>?r18) (λw=>?e18) ?h18
   case r18=>go_simp;exact hK
   case e18=>simp[go_sem,Cg]
   try walk_nrm
   clear S9 Cg;rw[adS];show KO _ _ (Pc.send cf (A4 x y s) (wk cf cl tv ((l.drop (j+1)).map (A4 x y)++msgs da db x (db.bp.drop (k+1)))),γ5) _ _ _ _ _;refine aas rfl (by rfl) rfl rfl rfl (Ot _).2 (hp _) (λw7 r7=>?_);have X4:=Ol.trans (Kept.rely r7);clear hs5 hf5 hx5 hk6 Ol;try walk_nrm
   refine aT C ?_;co_then;refine b7 C ?_;iterate 2 (refine av C ?_;try walk_nrm)
   refine aT C (ei ?_);exact⟨l.length-(j+1),U,γ5,j+1,rfl,X4,U,rfl,pg rfl⟩
  have hje:j=l.length:=U
  subst hje;have hd2:decide ((l.length:Int)<(l.length:Int))=false:=ab
  simp only[List.drop_length,eY,gm];refine av C ?_;try walk_nrm
  refine aT C ?_;co_then;refine aW C (dz C (t:=false) rfl ?_);simp only[aJ,if_false];refine nR C ?_;co_then;refine b7 C ?_;iterate 2 (refine av C ?_;try walk_nrm)
  refine aT C (ei ?_);exact⟨db.bp.length-(k+1),U,γ5,k+1,rfl,hk6,U,rfl,pg rfl⟩
 have AU:k=db.bp.length:=U
 subst AU;have YG:decide ((db.bp.length:Int)<(db.bp.length:Int))=false:=ab
 simp only[List.drop_length];refine av C ?_;try walk_nrm
 refine aT C ?_;co_then;refine aW C (dz C (t:=false) rfl ?_);simp only[aJ,if_false];refine nR C ?_;co_then;exact⟨rfl,rfl,Cf.sees hl,rfl,rfl,rfl⟩
noncomputable def bot:Frame:={(default:Frame)with fn:=Tryz.prog.funcs.size,defers:=[],mode:=.panicking [goexitEntry]}
def Yc:Frame:={(default:Frame)with fn:=100,kind:=.deferred}
def call84(bb ba bx bf bl:Nat):Deferred:={target:=.fn (.func 100) #[.pointer (some ⟨bb,0,none⟩),.pointer (some ⟨ba,0,none⟩),.pointer (some ⟨bx,0,none⟩),.pointer (some ⟨bf,0,none⟩),.pointer (some ⟨bl,0,none⟩)],args:=#[]}
theorem Z6(a:Act)(hd:a.defers=[])(ops:Array Oper):QuitsIn Tryz.prog 4 (G (Yc.at a [.inRegion ops []]) [bot]):=by obtain⟨T,df⟩:=a;simp only at hd;subst hd;refine .inr ⟨rfl,_,λw=>stepG_region_end,?_⟩;refine .inr ⟨rfl,_,λw=>stepG_end,?_⟩;refine .inr ⟨rfl,G bot [],λw=>?_,?_⟩;simp[G,stepG,unwind,doReturn,results,Frame.at,Yc,bot,Tryz.func100,Tryz.f100,seen,GStep.after,goexitEntry];refine .inr ⟨rfl,{G bot []with status:=.finished},λw=>?_,rfl⟩;simp[G,stepG,unwind,bot,goexitEntry,Frame.catches];rfl
theorem ad7(bb ba bx bf bl:Nat)(w:World):stepG Tryz.prog false (born Tryz.prog (call84 bb ba bx bf bl)) w=
  .go (G (Yc.at ⟨#[.pointer (some ⟨bb,0,none⟩),.pointer (some ⟨ba,0,none⟩),.pointer (some ⟨bx,0,none⟩),.pointer (some ⟨bf,0,none⟩),.pointer (some ⟨bl,0,none⟩),undef,undef,undef,undef,undef,undef,undef,undef,undef,undef,undef,undef,undef,undef,undef,undef,undef,undef,undef,undef,undef,undef,undef,undef,undef,undef,undef,undef,undef,undef,undef,undef,undef,undef,undef,undef,undef,undef,undef,undef,undef],[]⟩ [.code HY]) [bot]) w #[]:=by
 simp[born,call84,stepG,unwind,callDeferred,invoke,callFunc,Tryz.func100,Tryz.f100,seen,GStep.after,G,Frame.enter,Frame.at,Yc,bot,HY]
theorem QS(hP:Plain Tryz.prog){bb ba bx bf bl cf cl:Nat}{da db:Wk}{x:Int}(wj:da.ok)(AV:db.ok)(Jl:0<=x)(hx3:x<4)
  (ha:fW γ w ba da) (hb:fW γ w bb db) (hx:bF γ w ⟨bx,0,none⟩ (.int .i64 x)) (hf:bF γ w ⟨bf,0,none⟩ (.chan (some cf))) (hl:bF γ w ⟨bl,0,none⟩ (.chan (some cl))):
  Pr Tryz.prog aa false (wk cf cl (.bool true) (msgs da db x db.bp)) γ (born Tryz.prog (call84 bb ba bx bf bl)) w:=by
 have C:=A8 (aa:=aa) (main:=false) hP;have hne:=Ot (cf:=cf) (cl:=cl) (tv:=.bool true) (msgs da db x db.bp)
 suffices h:KG Tryz.prog aa false (wk cf cl (.bool true) (msgs da db x db.bp),γ) (born Tryz.prog (call84 bb ba bx bf bl)) w from h (λ_=>hne.1) hne.2
 refine C.go (fr:=(born Tryz.prog (call84 bb ba bx bf bl)).frame) (cs:=[]) (λw=>ad7 bb ba bx bf bl w) ?_;show KG Tryz.prog aa false _ (G (Yc.at _ (.code (.seq X84 abR)::[])) [bot]) w;refine C.go (λw=>stepG_seq) ?_;refine Lh hP wj AV Jl hx3 ha hb hx hf hl Yc [.code abR] [bot] rfl (by simp[Yc]) ?_;rintro⟨p',γ'⟩ e a' w' ⟨rfl,sD,jm,xz,hsz',ht4⟩;simp only at sD jm;subst sD;show KG Tryz.prog aa false _ (G (Yc.at a' (.code (.region _ _ false)::[])) [bot]) w';refine C.go (λw=>stepG_region) ?_;refine Pe C (Ot _).1 (v:=.chan (some cl)) rfl (by rfl) (by simp[Yc]) (λw₁ h₁=>⟨run_eq_of λK hK=>?_,?_⟩) ?_;have hc:=(jm.rely h₁).2;clear hsz'
 go_simp
 exact hK;have hc:=(jm.rely h₁).2;intro e he;simp[go_sem,hc,ht4]at he;subst he;exact(jm.rely h₁).Jg;refine I5 rfl (by rfl) rfl ?_ rfl (by simp[Yc]) ⟨4,QuitsD.of_quitsIn (Z6 _ (by exact xz) _)⟩;simp[Act.eval,Act.put,hsz']
end Go.Co
namespace Go.Co
open Go Go.Conc Go.Proofs
variable {aa:Machine->Trace->Prop} {γ:So} {w:World}
theorem HW{cf cl:Nat}{z2:Value}{qv:Bool}(k:Nat):Jh cf cl z2 qv k≠.ret/\Jh cf cl z2 qv k≠.stop:=by cases k<;>simp[Jh]
theorem HT{P:Program}{main:Bool}{fn:FuncId}{ops:Array Oper}{todo:cx}{Q:Gm->Exit->Act->World->Prop}{a:Act}:KO (KG P aa main) fn (.bad,γ) ops todo Q a w:=λ_ _ _ _ _ _ _ _=>trivial
theorem abt:(Tryz.prog.info? 4).map (λi=>(i.zero,i.size,i.bytes))=some (some (.bool false),1,1):=by kernel_rfl
theorem ahc(f:FuncId):(Tryz.prog.funcs[f]?).any (·.norace)=false:=by
 have h:Tryz.prog.funcs.all (λf=>!f.norace)=true:=by kernel_rfl
 cases hf:Tryz.prog.funcs[f]? with
 |none=>rfl
 |some fn=>grind
noncomputable def HX:Code:=Tryz.f101.body.getD .skip
noncomputable def X85:Code:=match HX with|.seq x _=>x|_=>.skip
noncomputable def abQ:Code:=match HX with|.seq _ r=>r|_=>.skip
def aeP(ba bl bf:Nat)(vl:Value)(nl k:Nat)(u:Nat->Value):Act:=
 ⟨#[.pointer (some ⟨ba,0,none⟩),.pointer (some ⟨bl,0,none⟩),.pointer (some ⟨bf,0,none⟩),u 3,u 4,vl,.int .i64 nl,.int .i64 k,u 8,u 9,u 10,u 11,u 12],[]⟩
def Uk(cf cl bf:Nat)(z2:Value)(γ':Gm)(e:Exit)(a':Act)(w':World):Prop:=e=.normal/\γ'.1=Jh cf cl z2 false 0/\bF γ'.2 w' ⟨bf,0,none⟩ (.chan (some cf))/\a'.defers=[]/\a'.tmps.size=13/\a'.tmps[2]? =some (.pointer (some ⟨bf,0,none⟩))
theorem LS(hP:Plain Tryz.prog){ba bl bf cf cl:Nat}{da:Wk}(wj:da.ok)
  (ha:fW γ w ba da) (hf:bF γ w ⟨bf,0,none⟩ (.chan (some cf))) (hl:bF γ w ⟨bl,0,none⟩ (.chan (some cl))):
  KJ (KG Tryz.prog aa false) 101 (Jh cf cl (.bool false) false da.bp.length,γ) X85 (Uk cf cl bf (.bool false))
   ⟨#[.pointer (some ⟨ba,0,none⟩),.pointer (some ⟨bl,0,none⟩),.pointer (some ⟨bf,0,none⟩),undef,undef,undef,undef,undef,undef,undef,undef,undef,undef],[]⟩ w:=by
 have C:=A8 (aa:=aa) (main:=false) hP;have hp:∀k,Jh cf cl (.bool false) false k≠.ret:=λk=>(HW k).1;obtain⟨vl,hvl,A,cap,rfl,-⟩:=ha.bp;have aeG:=wj.few;obtain⟨i4,hi4,hy0,hy1,hy2⟩:=info_parts abt;refine aW C (b7 C ?_);iterate 2 (refine av C ?_;try walk_nrm)
 refine iP C (hp _) hvl ?_;iterate 2 (try walk_nrm;refine av C ?_)
 try walk_nrm
 refine aT C ?_;co_then;refine gr C ?_;refine oS C (λn γ' a w'=>∃γ3 k,γ'=(Jh cf cl (.bool false) false (da.bp.length-k),γ3)/\Kept γ w γ3 w'/\k<=da.bp.length/\n=da.bp.length-k/\∃u,a=aeP ba bl bf (.slice A da.bp.length cap) da.bp.length k u) (n:=da.bp.length) ⟨γ,0,rfl,Kept.refl _ _,U,U,pg rfl⟩ ?_;rintro n γ' a w' ⟨γ3,k,hγ,Cf,hk,hn,u,Hl⟩;subst hγ;unfold aeP at Hl;subst Hl;refine aW C (b7 C ?_);by_cases hlt:k<da.bp.length
 .have YG:decide ((k:Int)<(da.bp.length:Int))=true:=by simpa using hlt
  have hl3:=Cf.sees hl;have hw5:IntKind.i64.wrap ((k:Int)+1)=(k:Int)+1:=by rw[wv]<;>omega
  refine av C ?_;try walk_nrm
  refine aT C ?_;co_then;refine aW C (dz C (t:=true) rfl ?_);simp only[if_true];refine j5 C ?_;co_then;refine aW C (gr C (b7 C ?_));refine iP C (hp _) hl3 ?_;try walk_nrm
  have hm:da.bp.length-k=(da.bp.length-(k+1))+1:=U
  rw[hm];show KO _ _ (Pc.recv cl false (.bool false) (λx=>match x with|some _=>Jh cf cl (.bool false) false (da.bp.length-(k+1))|none=>.bad),γ3) _ _ _ _ _;refine Iy rfl (by rfl) (λw=>?_) (λw=>?_) (λx=>?_) (λ_ x=>?_) (λx w7 r7=>?_);simp[execOp,Act.eval,run_underlying Tryz.underlying171,zeroValue,typeInfo,hi4,hy0,rcase];simp[execOp,Act.eval,run_underlying Tryz.underlying171,zeroValue,typeInfo,hi4,hy0];cases x with
  |none=>simp
  |some v=>exact(HW _).2
  grind
  cases x with
  |none=>exact HT
  |some v=>
   have X4:=Cf.trans (Kept.rely r7);clear hl3 Cf;simp only[];try walk_nrm
   refine aT C ?_;co_then;refine b7 C ?_;iterate 2 (refine av C ?_;try walk_nrm)
   refine aT C (ei ?_);exact⟨da.bp.length-(k+1),U,γ3,k+1,rfl,X4,U,rfl,pg rfl⟩
 have AU:k=da.bp.length:=U
 subst AU;have YG:decide ((da.bp.length:Int)<(da.bp.length:Int))=false:=ab
 simp only[Nat.sub_self];refine av C ?_;try walk_nrm
 refine aT C ?_;co_then;refine aW C (dz C (t:=false) rfl ?_);simp only[aJ,if_false];refine nR C ?_;co_then;exact⟨rfl,rfl,Cf.sees hf,rfl,rfl,rfl⟩
def Yb:Frame:={(default:Frame)with fn:=101,kind:=.deferred}
def call85(ba bl bf:Nat):Deferred:={target:=.fn (.func 101) #[.pointer (some ⟨ba,0,none⟩),.pointer (some ⟨bl,0,none⟩),.pointer (some ⟨bf,0,none⟩)],args:=#[]}
theorem Z5(a:Act)(hd:a.defers=[])(ops:Array Oper):QuitsIn Tryz.prog 4 (G (Yb.at a [.inRegion ops []]) [bot]):=by obtain⟨T,df⟩:=a;simp only at hd;subst hd;refine .inr ⟨rfl,_,λw=>stepG_region_end,?_⟩;refine .inr ⟨rfl,_,λw=>stepG_end,?_⟩;refine .inr ⟨rfl,G bot [],λw=>?_,?_⟩;simp[G,stepG,unwind,doReturn,results,Frame.at,Yb,bot,Tryz.func101,Tryz.f101,seen,GStep.after,goexitEntry];refine .inr ⟨rfl,{G bot []with status:=.finished},λw=>?_,rfl⟩;simp[G,stepG,unwind,bot,goexitEntry,Frame.catches];rfl
theorem ad6(ba bl bf:Nat)(w:World):stepG Tryz.prog false (born Tryz.prog (call85 ba bl bf)) w=
  .go (G (Yb.at ⟨#[.pointer (some ⟨ba,0,none⟩),.pointer (some ⟨bl,0,none⟩),.pointer (some ⟨bf,0,none⟩),undef,undef,undef,undef,undef,undef,undef,undef,undef,undef],[]⟩ [.code HX]) [bot]) w #[]:=by
 simp[born,call85,stepG,unwind,callDeferred,invoke,callFunc,Tryz.func101,Tryz.f101,seen,GStep.after,G,Frame.enter,Frame.at,Yb,bot,HX]
theorem SI(hP:Plain Tryz.prog){ba bl bf cf cl:Nat}{da:Wk}(wj:da.ok)
  (ha:fW γ w ba da) (hf:bF γ w ⟨bf,0,none⟩ (.chan (some cf))) (hl:bF γ w ⟨bl,0,none⟩ (.chan (some cl))):
  Pr Tryz.prog aa false (Jh cf cl (.bool false) false da.bp.length) γ (born Tryz.prog (call85 ba bl bf)) w:=by
 have C:=A8 (aa:=aa) (main:=false) hP;have hne:=HW (cf:=cf) (cl:=cl) (z2:=.bool false) (qv:=false) da.bp.length
 suffices h:KG Tryz.prog aa false (Jh cf cl (.bool false) false da.bp.length,γ) (born Tryz.prog (call85 ba bl bf)) w from h (λ_=>hne.1) hne.2
 refine C.go (fr:=(born Tryz.prog (call85 ba bl bf)).frame) (cs:=[]) (λw=>ad6 ba bl bf w) ?_;show KG Tryz.prog aa false _ (G (Yb.at _ (.code (.seq X85 abQ)::[])) [bot]) w;refine C.go (λw=>stepG_seq) ?_;refine LS hP wj ha hf hl Yb [.code abQ] [bot] rfl (by simp[Yb]) ?_;rintro⟨p',γ'⟩ e a' w' ⟨rfl,sD,hf',xz,hsz',ht2⟩;simp only at sD hf';subst sD;show KG Tryz.prog aa false _ (G (Yb.at a' (.code (.region _ _ false)::[])) [bot]) w';refine C.go (λw=>stepG_region) ?_;refine Pe C (HW _).1 (v:=.chan (some cf)) rfl (by rfl) (by simp[Yb]) (λw₁ h₁=>⟨run_eq_of λK hK=>?_,?_⟩) ?_;have hc:=(hf'.rely h₁).2;clear hsz'
 go_simp
 exact hK;have hc:=(hf'.rely h₁).2;intro e he;simp[go_sem,hc,ht2]at he;subst he;exact(hf'.rely h₁).Jg;refine FA ahc rfl (by rfl) rfl ?_ (by simp[Yb]) ⟨4,QuitsD.of_quitsIn (Z5 _ (by exact xz) _)⟩;simp[Act.eval,Act.put,hsz']
end Go.Co
namespace Go.Co
open Go Go.Conc Go.Proofs
open Classical
variable {P:Program} {aa:Machine->Trace->Prop} {γ:So} {w:World}
theorem Ld{b:Nat}:γ.give.all b↔γ.all b:=⟨λh=>h.elim id λh=>h.elim,.inl⟩
theorem bF.give {ad:Addr}{v:Value}(h:bF γ w ad v):bF γ.give w ad v:=⟨Ld.2 h.1,h.2⟩
theorem zu.give {v:Value}{l:br}(h:zu γ w v l):zu γ.give w v l:=by obtain⟨A,cap,rfl,h⟩:=h;exact⟨A,cap,rfl,λi x hx=>by obtain⟨ad,h1,h2⟩:=h i x hx;exact⟨ad,h1,h2.give⟩⟩
theorem fW.give {b:Nat}{d:Wk}(h:fW γ w b d):fW γ.give w b d:=
 ⟨h.cO.give,h.bp.imp λ_ ⟨h1,h2⟩=>⟨h1.give,h2.give⟩,λi hi=>(h.up i hi).imp λ_ ⟨h1,h2⟩=>⟨h1.give,h2.give⟩,λi hi=>(h.lo i hi).imp λ_ ⟨h1,h2⟩=>⟨h1.give,h2.give⟩⟩
theorem Kept.put {γ0:So}{w0:World}{ad:Addr}{v:Value}(k:Kept γ0 w0 γ w)(h:w0.heap.size<=ad.block):Kept γ0 w0 γ (w.setCell ad v):=
 ⟨k.shr,k.own,λb hb hlt=>(heap_setCell_other _ _ _ _ U).trans (k.blk b hb hlt),by rw[World.size_setCell];exact k.size,k.env⟩
structure Jp (A:Nat->Prop) (B0:Nat) (w0:World) (γ:So) (w:World):Prop where
 lt:∀b,A b->b<B0
 all:∀b,A b->γ.all b
 blk:∀b,A b->w.heap[b]? =w0.heap[b]?
 size:B0<=w.heap.size
 env:w.os=w0.os/\w.output=w0.output
theorem Jp.kept {A:Nat->Prop}{B0:Nat}{w0 w':World}{γ':So}(h:Jp A B0 w0 γ w)(k:Kept γ w γ' w'):Jp A B0 w0 γ' w':=
 ⟨h.lt,λb hb=>k.all (h.all b hb),λb hb=>(k.blk b (h.all b hb) (cG (h.lt b hb) h.size)).trans (h.blk b hb),bz h.size k.size,k.env.1.trans h.env.1,k.env.2.trans h.env.2⟩
theorem Jp.give {A:Nat->Prop}{B0:Nat}{w0:World}(h:Jp A B0 w0 γ w):Jp A B0 w0 γ.give w:=⟨h.lt,λb hb=>Ld.2 (h.all b hb),h.blk,h.size,h.env⟩
structure Fx (da db:Wk) (b2 b3 b5 b6 cf cl:Nat) (γ:So) (w:World):Prop where
 wa:fW γ w b2 da
 wb:fW γ w b3 db
 f:bF γ w ⟨b5,0,none⟩ (.chan (some cf))
 l:bF γ w ⟨b6,0,none⟩ (.chan (some cl))
theorem Fx.kept {da db:Wk}{b2 b3 b5 b6 cf cl:Nat}{γ':So}{w':World}(h:Fx da db b2 b3 b5 b6 cf cl γ w)(k:Kept γ w γ' w'):Fx da db b2 b3 b5 b6 cf cl γ' w':=⟨h.wa.kept k,h.wb.kept k,k.sees h.f,k.sees h.l⟩
theorem Fx.give {da db:Wk}{b2 b3 b5 b6 cf cl:Nat}(h:Fx da db b2 b3 b5 b6 cf cl γ w):Fx da db b2 b3 b5 b6 cf cl γ.give w:=⟨h.wa.give,h.wb.give,h.f.give,h.l.give⟩
def OG(b2 b3 b5 b6:Nat)(u:Nat->Value):Act:=
 ⟨#[u 0,u 1,.pointer (some ⟨b2,0,none⟩),.pointer (some ⟨b3,0,none⟩),u 4,.pointer (some ⟨b5,0,none⟩),.pointer (some ⟨b6,0,none⟩),u 7,u 8,u 9,u 10,u 11,u 12,u 13,u 14,u 15,u 16,u 17,u 18,u 19,u 20,u 21,u 22,u 23,u 24,u 25,u 26,u 27,u 28,u 29,u 30,u 31,u 32,u 33,u 34],[]⟩
def JK(b2 b3 b5 b6:Nat)(vl:Value)(nl k:Nat)(u:Nat->Value):Act:=
 ⟨#[u 0,u 1,.pointer (some ⟨b2,0,none⟩),.pointer (some ⟨b3,0,none⟩),u 4,.pointer (some ⟨b5,0,none⟩),.pointer (some ⟨b6,0,none⟩),u 7,u 8,u 9,u 10,u 11,u 12,u 13,u 14,vl,.int .i64 nl,.int .i64 k,u 18,u 19,u 20,u 21,u 22,u 23,u 24,u 25,u 26,u 27,u 28,u 29,u 30,u 31,u 32,u 33,u 34],[]⟩
def ais(b2 b3 b5 b6 cf:Nat)(out:Value)(u:Nat->Value):Act:=
 ⟨#[u 0,u 1,.pointer (some ⟨b2,0,none⟩),.pointer (some ⟨b3,0,none⟩),u 4,.pointer (some ⟨b5,0,none⟩),.pointer (some ⟨b6,0,none⟩),u 7,u 8,out,u 10,u 11,u 12,u 13,u 14,u 15,u 16,u 17,u 18,u 19,u 20,u 21,u 22,u 23,.chan (some cf),u 25,u 26,u 27,u 28,u 29,u 30,u 31,u 32,u 33,u 34],[]⟩
noncomputable def ad9:Code:=Tryz.f64.body.getD .skip
noncomputable def rD:Code:=match ad9 with|.seq _ (.seq _ (.seq _ x))=>x|_=>.skip
noncomputable def aeW:Code:=match rD with|.seq x _=>x|_=>.skip
theorem K5{cf cl:Nat}{tv z2:Value}{qv:Bool}{K:Nat}{p:Pc}(todo:List (List Value)):chain cf cl tv z2 qv K p todo≠.ret/\chain cf cl tv z2 qv K p todo≠.stop:=by cases todo<;>simp[chain]
def aid(da db:Wk)(b2 b3 b5 b6 cf cl:Nat)(K:Nat)(p:Pc)(A:Nat->Prop)(B0:Nat)(w0:World)(γ':Gm)(e:Exit)(a':Act)(w':World):Prop:=
 e=.normal/\γ'.1=chain cf cl (.bool true) (.bool false) false K p []/\Jp A B0 w0 γ'.2 w'/\Fx da db b2 b3 b5 b6 cf cl γ'.2 w'/\(∀b,A b->γ'.2.1 b\/γ'.2.2 b)/\∃vl nl k u,a'=JK b2 b3 b5 b6 vl nl k u
theorem adl(hP:Plain Tryz.prog){b2 b3 b5 b6 cf cl:Nat}{da db:Wk}(wj:da.ok)(AV:db.ok){K:Nat}{p:Pc}{A:Nat->Prop}{B0:Nat}{w0:World}(hS:Jp A B0 w0 γ w)(hF:Fx da db b2 b3 b5 b6 cf cl γ w)(u:Nat->Value):
  KJ (KG Tryz.prog aa true) 64 (chain cf cl (.bool true) (.bool false) false K p (da.bp.map λx=>msgs da db x db.bp),γ) aeW (aid da db b2 b3 b5 b6 cf cl K p A B0 w0) (OG b2 b3 b5 b6 u) w:=by
 have C:=A8 (aa:=aa) (main:=true) hP;have hp:∀todo,chain cf cl (.bool true) (.bool false) false K p todo≠.ret:=λtodo=>(K5 todo).1;obtain⟨v0,Yv,AA,cap,rfl,hA⟩:=hF.wa.bp;have hI:zu γ w (.slice AA da.bp.length cap) da.bp:=⟨AA,cap,rfl,hA⟩;have aeG:=wj.few;unfold OG;refine aW C (b7 C ?_);iterate 2 (refine av C ?_;try walk_nrm)
 refine iP C (hp _) Yv ?_;iterate 2 (try walk_nrm;refine av C ?_)
 try walk_nrm
 refine aT C ?_;co_then;refine gr C ?_;clear Yv hA;refine oS C (λn γ' a w'=>∃γ3 k,γ'=(chain cf cl (.bool true) (.bool false) false K p ((da.bp.drop k).map λx=>msgs da db x db.bp),γ3)/\Jp A B0 w0 γ3 w'/\Fx da db b2 b3 b5 b6 cf cl γ3 w'/\zu γ3 w' (.slice AA da.bp.length cap) da.bp/\k<=da.bp.length/\n=da.bp.length-k/\∃u,a=JK b2 b3 b5 b6 (.slice AA da.bp.length cap) da.bp.length k u) (n:=da.bp.length) ⟨γ,0,rfl,hS,hF,hI,U,U,pg rfl⟩ ?_;clear hS hF hI;rintro n γ' a w' ⟨γ3,k,hγ,hS,hF,hI,hk,hn,u,Hl⟩;subst hγ;unfold JK at Hl;subst Hl;refine aW C (b7 C ?_);by_cases hlt:k<da.bp.length
 .have YG:decide ((k:Int)<(da.bp.length:Int))=true:=by simpa using hlt
  obtain⟨x,hx⟩:∃x,da.bp[k]? =some x:=⟨_,bn hlt⟩;have hxb:=wj.bp k x hx;obtain⟨ad,rfl,hsA⟩:∃ad,AA=some ad/\bF γ3 w' (ad.add k) (.int .i64 x):=by obtain⟨A2,sU,he,h2⟩:=hI;cases he;exact h2 k x hx
  have UJ:da.bp.drop k=x::da.bp.drop (k+1):=by rw[rS hlt];congr 1;exact bM ((bn hlt).symm.trans hx)
  have hw5:IntKind.i64.wrap ((k:Int)+1)=(k:Int)+1:=by rw[wv]<;>omega
  refine av C ?_;try walk_nrm
  refine aT C ?_;co_then;refine aW C (dz C (t:=true) rfl ?_);simp only[if_true];refine j5 C ?_;co_then;refine aW C (gr C (aW C (b7 C ?_)));refine av C ?_;try walk_nrm
  refine iP C (hp _) hsA ?_;try walk_nrm
  refine qm C (hp _) (ob:=?ob9) rfl (by rfl) (λw=>run_eq_of λK hK=>?r9) (λw=>?e9) ?h9
  case r9=>go_simp;exact hK
  case e9=>simp[go_sem]
  intro w5 Yn;try walk_nrm
  have Ol:=(Kept.rely Yn).trans (Kept.alloc γ3 w5 w5.heap.size (.cells #[.int .i64 0] 3));have hz5:(w5.alloc (.cells #[.int .i64 0] 3)).frozen? ⟨w5.heap.size,0,none⟩=false:=World.frozen?_alloc_new _ _ _ _;have hs5:bF _ _ ⟨w5.heap.size,0,none⟩ (.int .i64 0):=bF.fresh (γ:=γ3) (w:=w5) (cs:=#[.int .i64 0]) (t:=3) rfl rfl;have Tc:(γ3.more w5.heap.size).2 w5.heap.size:=.inr rfl;have Mw:w'.heap.size<=w5.heap.size:=Yn.1;generalize w5.alloc (.cells #[.int .i64 0] 3)=w6 at*;generalize γ3.more w5.heap.size=γ6 at*;generalize w5.heap.size=b8 at*;clear hsA Yn;refine MR C (hp _) (ad:=⟨b8,0,none⟩) (v:=.int .i64 x) rfl (by rfl) Tc (λw₁ h₁=>⟨?_,?_⟩) ?_;have hc:=(hs5.rely h₁).2;have hz:w₁.frozen? ⟨b8,0,none⟩=false:=(World.frozen?_of_block (h₁.2.1 b8 (.inr Tc))).trans hz5;refine(?_:∀K:Result Next->Prop,K (.ok .skip (w₁.setCell ⟨b8,0,none⟩ (.int .i64 x)))->K _) (·=_) rfl;intro K hK
  go_simp
  try(unfold stored;go_simp)
  exact hK;have hc:=(hs5.rely h₁).2;have hz:w₁.frozen? ⟨b8,0,none⟩=false:=(World.frozen?_of_block (h₁.2.1 b8 (.inr Tc))).trans hz5;intro e he;simp[go_sem,hc,hz]at he;exact he;intro w7 r7;try walk_nrm
  have X4:=(Ol.trans (Kept.rely r7)).put (ad:=⟨b8,0,none⟩) (v:=.int .i64 x) Mw;have hx7:bF γ6 (w7.setCell ⟨b8,0,none⟩ (.int .i64 x)) ⟨b8,0,none⟩ (.int .i64 x):=⟨.inr Tc,World.cell?_setCell_same _ _ _ (hs5.rely r7).2⟩;generalize w7.setCell ⟨b8,0,none⟩ (.int .i64 x)=w8 at*;clear hs5 hz5 r7 Ol Mw;have hF8:=hF.kept X4;have hS8:=hS.kept X4;have hI8:=X4.G7 hI;clear hF hS hI X4;refine aT C ?_;co_then;refine b7 C ?_;refine dK C (v:=?v10) rfl (by rfl) (λw=>run_eq_of λK hK=>?r10) (λw=>?e10) ?vE
  case r10=>go_simp;exact hK
  case e10=>simp[go_sem,Instr.makeFunc]
  try walk_nrm
  rw[UJ,bg];show KO _ _ (Pc.go (wk cf cl (.bool true) (msgs da db x db.bp)) (chain cf cl (.bool true) (.bool false) false K p ((da.bp.drop (k+1)).map λx=>msgs da db x db.bp)),γ6) _ _ _ _ _;refine abr (d:=call84 b3 b2 b8 b5 b6) (f:=.func 100) (cap:=#[.pointer (some ⟨b3,0,none⟩),.pointer (some ⟨b2,0,none⟩),.pointer (some ⟨b8,0,none⟩),.pointer (some ⟨b5,0,none⟩),.pointer (some ⟨b6,0,none⟩)]) rfl (by rfl) (λw=>?_) (λw=>?_) rfl (K5 _).2 (λ_=>hp _) (λw9 r9 w10 r10=>?_) (λw9 r9 w10 r10=>?_);simp[execOp,resolve,Act.eval,call84,Deferred.ofValue];simp[execOp,resolve,Act.eval,Deferred.ofValue];have hk:=(Kept.rely r9);have ox:=(Kept.rely r10);have Qs:=((hF8.kept hk).give).kept ox;exact QS hP wj AV hxb.1 U Qs.wa Qs.wb (ox.sees (hk.sees hx7).give) Qs.f Qs.l;have Qs:=((hF8.kept (Kept.rely r9)).give).kept (Kept.rely r10);have hS9:=((hS8.kept (Kept.rely r9)).give).kept (Kept.rely r10);have hI9:=(Kept.rely r10).G7 ((Kept.rely r9).G7 hI8).give;clear hF8 hS8 hI8 hx7;try walk_nrm
  refine aT C ?_;co_then;refine b7 C ?_;iterate 2 (refine av C ?_;try walk_nrm)
  refine aT C (ei ?_);exact⟨da.bp.length-(k+1),U,_,k+1,rfl,hS9,Qs,hI9,U,rfl,pg rfl⟩
 have AU:k=da.bp.length:=U
 subst AU;have YG:decide ((da.bp.length:Int)<(da.bp.length:Int))=false:=ab
 simp only[List.drop_length,eY];refine av C ?_;try walk_nrm
 refine aT C ?_;co_then;refine aW C (dz C (t:=false) rfl ?_);simp only[aJ,if_false];refine nR C ?_;co_then;exact⟨rfl,rfl,hS,hF,hS.all,_,_,_,pg (F:=λu=>JK b2 b3 b5 b6 (.slice AA da.bp.length cap) da.bp.length da.bp.length u) rfl⟩
end Go.Co
namespace Go.Co
open Go Go.Conc Go.Proofs
open Classical
variable {P:Program} {aa:Machine->Trace->Prop} {main:Bool} {K:Gm->Goroutine->World->Prop} {fn:FuncId} {p:Pc} {γ:So} {Q:Gm->Exit->Act->World->Prop} {a:Act} {w:World} {ops:Array Oper} {i:Nat} {rest:cx} {o:Oper}
theorem aat(C:KC P main K Ck Hp)(hp:p≠.ret){b:Nat}{x y z:Value}(ho:ops[i]? =some o)(hw:Region.wanted o (yielded ops a.tmps)=true)(hO:γ.2 b)
  (hrun:∀w₁,iL γ w w₁->(execOp a.eval o).run P w₁=.ok .skip (((w₁.setCell ⟨b,0,none⟩ x).setCell ⟨b,1,none⟩ y).setCell ⟨b,2,none⟩ z)/\∀e∈(execOp a.eval o).events P w₁ #[],∃j,e=⟨.cell ⟨b,j,none⟩,true,false⟩)
  (h:∀w₁,iL γ w w₁->KO K fn (p,γ) ops rest Q (a.put o.dst undef) (((w₁.setCell ⟨b,0,none⟩ x).setCell ⟨b,1,none⟩ y).setCell ⟨b,2,none⟩ z)):KO K fn (p,γ) ops (i::rest) Q a w:=
 yc C ho hw λw₁ r=>by
  obtain⟨h1,h2⟩:=hrun w₁ (Yo hp r);rw[h1];have hsz:(((w₁.setCell ⟨b,0,none⟩ x).setCell ⟨b,1,none⟩ y).setCell ⟨b,2,none⟩ z).heap.size=w₁.heap.size:=by rw[World.size_setCell,World.size_setCell,World.size_setCell]
  refine⟨(p,γ),stg hp ⟨rfl,λc=>⟨.inl,λh=>h.elim id λh=>absurd h.2 U⟩,U,λc _ hn=>?_,rfl,rfl,rfl,λe he=>?_⟩,h w₁ (Yo hp r)⟩;have hne:c≠b:=λe=>hn (e▸hO);rw[heap_setCell_other _ _ _ _ hne,heap_setCell_other _ _ _ _ hne,heap_setCell_other _ _ _ _ hne];obtain⟨j,rfl⟩:=h2 e (mem_listed he);exact .inl ⟨_,true,false,rfl,λ_=>hO,.inr hO⟩
theorem Jp.append {A:Nat->Prop}{B0:Nat}{w0 w':World}{γ':So}{v:Value}(h:Jp A B0 w0 γ w)(h1:γ'.1=γ.1)(h2:∀b,γ.2 b->γ'.2 b)(h3:w.heap.size<=w'.heap.size)
  (h4:∀b,γ.all b->b<w.heap.size->some b≠v.ownBlock->w'.heap[b]? =w.heap[b]?) (h5:w'.os=w.os/\w'.output=w.output) (hb:∀b,v.ownBlock=some b->B0<=b):Jp A B0 w0 γ' w':=
 ⟨h.lt,λb hlt=>(h.all b hlt).imp (by rw[h1];exact id) (h2 b),λb hlt=>(h4 b (h.all b hlt) (cG (h.lt b hlt) h.size) λe=>by have:=hb b e.symm;have:=h.lt b hlt;omega).trans (h.blk b hlt),bz h.size h3,h5.1.trans h.env.1,h5.2.trans h.env.2⟩
abbrev Sm:=Int×Int×Int
def vr(m:Sm):Value:=A4 m.1 m.2.1 m.2.2
def qZ(m:Sm):List Value:=[.int .i64 m.1,.int .i64 m.2.1,.int .i64 m.2.2]
theorem I9{id:Nat}{R:Exit->Act->World->Prop}(h:R .normal a w):Exit.inBlock id R .normal a w:=h
theorem Ic(l:List Sm):(l.flatMap qZ).length=l.length*3:=by
 induction l with
 |nil=>rfl
 |cons m l ih=>simp only[de,dM,ih,qZ,dA,j8];omega
theorem ZP{m m':Sm}(h:vr m=vr m'):m=m':=by obtain⟨a,b,c⟩:=m;obtain⟨a',b',c'⟩:=m';simp[vr,A4]at h;obtain⟨rfl,rfl,rfl⟩:=h;rfl
theorem GQ(m:Sm):∀l:List Sm,(l.map vr).erase (vr m)=(l.erase m).map vr
 |[]=>rfl
 |a::l=>by
  rw[bg,List.erase_cons,List.erase_cons];by_cases h:a=m
  grind
  have h2:¬vr a=vr m:=λe=>h (ZP e);simp[h,h2,GQ m l]
theorem aaM(cf:Nat)(z:Value):Cj cf z []=.recv cf true z λx=>match x with|some _=>.bad|none=>.ret:=rfl
theorem XN(cf:Nat)(z v0:Value)(vs:List Value):Cj cf z (v0::vs)=.recv cf true z λx=>match x with|some v=>if v∈v0::vs then Cj cf z ((v0::vs).erase v)else .bad|none=>.bad:=by
 unfold Cj;show Pc.recv cf true z (λx=>match x with|some v=>if v∈v0::vs then Zi cf z vs.length ((v0::vs).erase v)else .bad|none=>.bad)=_;congr 1;funext x;cases x with
 |none=>rfl
 |some v=>grind
def UR(out:Value)(u:Nat->Value):Act:=
 ⟨#[u 0,u 1,u 2,u 3,u 4,u 5,u 6,u 7,u 8,out,u 10,u 11,u 12,u 13,u 14,u 15,u 16,u 17,u 18,u 19,u 20,u 21,u 22,u 23,u 24,u 25,u 26,u 27,u 28,u 29,u 30,u 31,u 32,u 33,u 34],[]⟩
def OH(cf:Nat)(out:Value)(u:Nat->Value):Act:=
 ⟨#[u 0,u 1,u 2,u 3,u 4,u 5,u 6,u 7,u 8,out,u 10,u 11,u 12,u 13,u 14,u 15,u 16,u 17,u 18,u 19,u 20,u 21,u 22,u 23,.chan (some cf),u 25,u 26,u 27,u 28,u 29,u 30,u 31,u 32,u 33,u 34],[]⟩
def acX(A:Nat->Prop)(B0:Nat)(w0:World)(R:List Sm)(γ':Gm)(e:Exit)(a':Act)(w':World):Prop:=
 e=.normal/\γ'.1=.ret/\Jp A B0 w0 γ'.2 w'/\∃(got:List Sm)(out:Value),got.Perm R/\w'.ownsRow B0 79 3 out got.length (got.flatMap qZ)/\∃u,a'=UR out u
noncomputable def U1:Code:=match rD with|.seq _ (.seq _ (.seq _ (.seq (.seq _ x) _)))=>x|_=>.skip
theorem XM(hP:Plain Tryz.prog){cf:Nat}{A:Nat->Prop}{B0:Nat}{w0:World}{R:List Sm}(hR:R.length<=4294967296)(hS:Jp A B0 w0 γ w)(u:Nat->Value):
  KJ (KG Tryz.prog aa true) 64 (Cj cf (.agg #[.int .i64 0,.int .i64 0,.int .i64 0]) (R.map vr),γ) U1 (acX A B0 w0 R) (OH cf (.slice none 0 0) u) w:=by
 have C:=A8 (aa:=aa) (main:=true) hP;obtain⟨i0,FI,G8,Oj,hz2⟩:=info_parts MU;have hzv:∀w,(zeroValue 79).run Tryz.prog w=.ok (.agg #[.int .i64 0,.int .i64 0,.int .i64 0]) w:=λw=>by simp[zeroValue,typeInfo,FI,G8]
 have hze:∀w es,(zeroValue 79).events Tryz.prog w es=es:=λw es=>by simp[zeroValue,typeInfo,FI,G8]
 have hrun:∀(T:Act)(o:Oper)(w:World),o.op=.recv 170 (.tmp 24) true->T.eval (.tmp 24)=.chan (some cf)->(execOp T.eval o).run Tryz.prog w=.ok (.comm #[rcase cf (.agg #[.int .i64 0,.int .i64 0,.int .i64 0])] true (.recv true)) w:=by intro T o w ho hT;simp[execOp,ho,run_underlying Tryz.underlying170,hzv,rcase,hT]
 have vD:∀(T:Act)(o:Oper)(w:World),o.op=.recv 170 (.tmp 24) true->(execOp T.eval o).events Tryz.prog w #[]=#[]:=by intro T o w ho;simp[execOp,ho,run_underlying Tryz.underlying170,hze]
 refine gr C ?_;refine oS C (λn γ' a w'=>∃(γ3:So)(rem got:List Sm)(out:Value),γ'=(Cj cf (.agg #[.int .i64 0,.int .i64 0,.int .i64 0]) (rem.map vr),γ3)/\Jp A B0 w0 γ3 w'/\kT γ3 w' B0 79 3 out got.length (got.flatMap qZ)/\(got++rem).Perm R/\n=rem.length/\∃u,a=OH cf out u) (n:=R.length) ⟨γ,R,[],.slice none 0 0,rfl,hS,kT.nil _ _ _,ab,rfl,u,rfl⟩ ?_;clear hS;rintro n γ' a w' ⟨γ3,rem,got,out,hγ,hS,dO,abx,hn,u,Hl⟩;subst hγ;unfold OH at Hl;subst Hl;have hlen:got.length+rem.length<=4294967296:=by have h1:=abx.length_eq;rw[dM]at h1;omega
 refine aW C (b7 C ?_);cases rem with
 |nil=>
  simp only[eY];rw[aaM];refine Iy rfl (by rfl) (λw=>hrun _ _ w rfl rfl) (λw=>vD _ _ w rfl) (λx=>by cases x<;>simp) (λh=>ao) (λx w7 r7=>?_);cases x with
  |some v=>exact HT
  |none=>
   have hS7:=hS.kept (Kept.rely r7);have FT:=dO.rely r7;simp only[Option.getD_none,Option.isSome_none,recvd];try walk_nrm
   refine av C ?_;try walk_nrm
   refine aT C ?_;co_then;refine aW C (dz C (t:=false) rfl ?_);simp only[aJ,if_false];refine nR C ?_;co_then;exact⟨rfl,rfl,hS7,got,out,by simpa using abx,FT.1,pg (F:=λu=>UR out u) rfl⟩
 |cons m0 ms=>
  simp only[bg];rw[XN];refine Iy rfl (by rfl) (λw=>hrun _ _ w rfl rfl) (λw=>vD _ _ w rfl) (λx=>?_) (λh=>ao) (λx w7 r7=>?_);cases x with
  |none=>simp
  |some v=>
   simp only;split;obtain⟨q,hq⟩:=vo (cf:=cf) (z:=.agg #[.int .i64 0,.int .i64 0,.int .i64 0]) ((vr m0::ms.map vr).erase v);rw[hq];simp
   simp
  cases x with
  |none=>exact HT
  |some v=>
   simp only;by_cases hv:v∈vr m0::ms.map vr
   .rw[if_pos hv];obtain⟨m,hm,rfl⟩:∃m,m∈m0::ms/\vr m=v:=by have:v∈(m0::ms).map vr:=hv;exact eO.1 this
    have ahs:(vr m0::ms.map vr).erase (vr m)=((m0::ms).erase m).map vr:=GQ m (m0::ms);rw[ahs];have hp2:=List.perm_cons_erase hm;have UH:=Qh hm;generalize(m0::ms).erase m=YV at*;obtain⟨x,y,s⟩:=m;have hp:Cj cf (.agg #[.int .i64 0,.int .i64 0,.int .i64 0]) (YV.map vr)≠.ret:=by obtain⟨q,hq⟩:=vo (cf:=cf) (z:=.agg #[.int .i64 0,.int .i64 0,.int .i64 0]) (YV.map vr);rw[hq];simp
    have hS7:=hS.kept (Kept.rely r7);have FT:=dO.rely r7;clear hS dO;simp only[rO,Option.isSome_some,recvd,vr,A4];try walk_nrm
    refine av C ?_;try walk_nrm
    refine aT C ?_;co_then;refine aW C (dz C (t:=true) rfl ?_);simp only[if_true];refine j5 C ?_;co_then;refine gr C (aW C (b7 C ?_));refine av C ?_;try walk_nrm
    refine qm C hp (ob:=?ob4) rfl (by rfl) (λw=>run_eq_of λK hK=>?r4) (λw=>?e4) ?h4
    case r4=>go_simp;exact hK
    case e4=>simp[go_sem]
    intro w5 Yn;try walk_nrm
    have Ol:=(Kept.rely Yn).trans (Kept.alloc γ3 w5 w5.heap.size (.cells #[.int .i64 0,.int .i64 0,.int .i64 0] 79));have hz5:∀j,(w5.alloc (.cells #[.int .i64 0,.int .i64 0,.int .i64 0] 79)).frozen? ⟨w5.heap.size,j,none⟩=false:=λj=>World.frozen?_alloc_new _ _ _ _;have h50:bF _ _ ⟨w5.heap.size,0,none⟩ (.int .i64 0):=bF.fresh (γ:=γ3) (w:=w5) (cs:=#[.int .i64 0,.int .i64 0,.int .i64 0]) (t:=79) rfl rfl;have h51:bF _ _ ⟨w5.heap.size,1,none⟩ (.int .i64 0):=bF.fresh (γ:=γ3) (w:=w5) (cs:=#[.int .i64 0,.int .i64 0,.int .i64 0]) (t:=79) rfl rfl;have h52:bF _ _ ⟨w5.heap.size,2,none⟩ (.int .i64 0):=bF.fresh (γ:=γ3) (w:=w5) (cs:=#[.int .i64 0,.int .i64 0,.int .i64 0]) (t:=79) rfl rfl;have Tc:(γ3.more w5.heap.size).2 w5.heap.size:=.inr rfl;have Mw:w7.heap.size<=w5.heap.size:=Yn.1;generalize w5.alloc (.cells #[.int .i64 0,.int .i64 0,.int .i64 0] 79)=w6 at*;generalize γ3.more w5.heap.size=γ6 at*;generalize w5.heap.size=b8 at*;clear Yn;refine aat C hp (b:=b8) (x:=.int .i64 x) (y:=.int .i64 y) (z:=.int .i64 s) rfl (by rfl) Tc (λw₁ h₁=>⟨?_,?_⟩) ?_;have hc0:=(h50.rely h₁).2;have CP:=(h51.rely h₁).2;have zo:=(h52.rely h₁).2;have hz:∀j,w₁.frozen? ⟨b8,j,none⟩=false:=λj=>(World.frozen?_of_block (h₁.2.1 b8 (.inr Tc))).trans (hz5 j);refine(?_:∀K:Result Next->Prop,K (.ok .skip (((w₁.setCell ⟨b8,0,none⟩ (.int .i64 x)).setCell ⟨b8,1,none⟩ (.int .i64 y)).setCell ⟨b8,2,none⟩ (.int .i64 s)))->K _) (·=_) rfl;intro K hK
    go_simp
    try(unfold stored;go_simp)
    exact hK;have hc0:=(h50.rely h₁).2;have CP:=(h51.rely h₁).2;have zo:=(h52.rely h₁).2;have hz:∀j,w₁.frozen? ⟨b8,j,none⟩=false:=λj=>(World.frozen?_of_block (h₁.2.1 b8 (.inr Tc))).trans (hz5 j);intro e he;simp[go_sem,hc0,CP,zo,hz]at he;rcases he with rfl|rfl|rfl
    grind
    grind
    grind
    intro w9 r9;try walk_nrm
    have hk9:=(((Ol.trans (Kept.rely r9)).put (ad:=⟨b8,0,none⟩) (v:=.int .i64 x) Mw).put (ad:=⟨b8,1,none⟩) (v:=.int .i64 y) Mw).put (ad:=⟨b8,2,none⟩) (v:=.int .i64 s) Mw;have s0:bF γ6 (((w9.setCell ⟨b8,0,none⟩ (.int .i64 x)).setCell ⟨b8,1,none⟩ (.int .i64 y)).setCell ⟨b8,2,none⟩ (.int .i64 s)) ⟨b8,0,none⟩ (.int .i64 x):=
     bF.put (bF.put ⟨.inr Tc,World.cell?_setCell_same _ _ _ (h50.rely r9).2⟩ ab) ab
    have s1:bF γ6 (((w9.setCell ⟨b8,0,none⟩ (.int .i64 x)).setCell ⟨b8,1,none⟩ (.int .i64 y)).setCell ⟨b8,2,none⟩ (.int .i64 s)) ⟨b8,1,none⟩ (.int .i64 y):=
     bF.put ⟨.inr Tc,World.cell?_setCell_same _ _ _ ((h51.rely r9).put ab).2⟩ ab
    have s2:bF γ6 (((w9.setCell ⟨b8,0,none⟩ (.int .i64 x)).setCell ⟨b8,1,none⟩ (.int .i64 y)).setCell ⟨b8,2,none⟩ (.int .i64 s)) ⟨b8,2,none⟩ (.int .i64 s):=
     ⟨.inr Tc,World.cell?_setCell_same _ _ _ (((h52.rely r9).put ab).put ab).2⟩
    generalize((w9.setCell ⟨b8,0,none⟩ (.int .i64 x)).setCell ⟨b8,1,none⟩ (.int .i64 y)).setCell ⟨b8,2,none⟩ (.int .i64 s)=w10 at*;have aeL:=hS7.kept hk9;have Vw:=FT.kept hk9;clear hk9 Ol h50 h51 h52 hz5 r9 Mw hS7 FT Tc;refine aT C ?_;co_then;refine b7 C ?_;refine av C ?_;try walk_nrm
    refine ql C hp (v:=?v6) rfl (by rfl) (λw₁ h₁=>⟨run_eq_of λK hK=>?r6,?e6⟩) ?h6
    case r6=>have hc0:=(bF.rely s0 h₁).2;have CP:=(bF.rely s1 h₁).2;have zo:=(bF.rely s2 h₁).2;go_simp;exact hK
    case e6=>
     have hc0:=(bF.rely s0 h₁).2;have CP:=(bF.rely s1 h₁).2;have zo:=(bF.rely s2 h₁).2;intro e he;simp[go_sem,hc0,CP,zo]at he;rcases he with rfl|rfl|rfl;exact(bF.rely s0 h₁).Jg;exact(bF.rely s1 h₁).Jg;exact(bF.rely s2 h₁).Jg
    try walk_nrm
    refine Vq C hp (ob:=?ob7) (n:=1) rfl (by rfl) (λw=>run_eq_of λK hK=>?r7) (λw=>?e7) ?h7
    case r7=>go_simp;exact hK
    case e7=>simp[go_sem]
    intro Tk ag3;try walk_nrm
    have acy:=(Kept.rely ag3).trans (Kept.alloc γ6 Tk Tk.heap.size (.cells #[.int .i64 x,.int .i64 y,.int .i64 s] 79));have ahv:∀(j:Nat)(u:Value),(qZ (x,y,s))[j]? =some u->bF (γ6.more Tk.heap.size) (Tk.alloc (.cells #[.int .i64 x,.int .i64 y,.int .i64 s] 79)) ((⟨Tk.heap.size,0,none⟩:Addr).add j) u:=by intro j u hu;rw[Addr.add_lit];simp only[eN];refine bF.fresh (γ:=γ6) (w:=Tk) rfl ?_;simpa [qZ]using hu
    have aeK:=aeL.kept acy;have Vv:=Vw.kept acy;have adX:(γ6.more Tk.heap.size).all Tk.heap.size:=.inr (.inr rfl);generalize Tk.alloc (.cells #[.int .i64 x,.int .i64 y,.int .i64 s] 79)=w12 at*;generalize γ6.more Tk.heap.size=γ12 at*;generalize Tk.heap.size=b12 at*;clear aeL Vw s0 s1 s2 acy;have CO:=Ic got;refine GD C hp (B:=B0) (news:=qZ (x,y,s)) (m:=1) (c:=1) (ad:=⟨b12,0,none⟩) (n:=got.length) (xs:=got.flatMap qZ) (v:=out) rfl (by rfl) rfl Tryz.underlying56 FI G8 Oj hz2 rfl ae rfl rfl aeK.size Vv rfl ahv adX (by simp[qZ,Value.oneCell']) (by simp only[maxLen];omega) U ?_;intro v13 w13 γ13 X6 hg2 hg3 hg4 hg5 aik;have ahX:=aeK.append X6 hg2 hg3 hg4 hg5 (v:=out) (λb hb=>(Vv.1.lt b hb).1);try walk_nrm
    refine av C ?_;try walk_nrm
    refine aT C (I9 (ei ?_));refine⟨YV.length,by simp only[dA]at UH hn;omega,γ13,YV,got++[(x,y,s)],v13,rfl,ahX,?_,?_,rfl,pg rfl⟩
    grind
    grind
   rw[if_neg hv];exact HT
end Go.Co
