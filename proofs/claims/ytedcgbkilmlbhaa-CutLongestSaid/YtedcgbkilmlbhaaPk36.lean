import Derived.Test.YtedcgbkilmlbhaaPk35
set_option maxHeartbeats 2000000
set_option maxRecDepth 100000
namespace Go.Co
open Go Go.Conc Go.Proofs
variable {aa:Machine->Trace->Prop} {γ:So} {w:World}
theorem PJ{P:Program}{main:Bool}{K:Gm->Goroutine->World->Prop}{p:Pc}{a:Act}{ops:Array Oper}{i:Nat}{rest:List Nat}{o:Oper}(C:KC P main K CY HW)(hp:p≠.ret){v:Value}{b:Frame}{k:List Item}{cs:List Frame}(ho:ops[i]? =some o)(hw:Region.wanted o (yielded ops a.tmps)=true)(hk:b.kind≠.early)
  (hrun:∀w₁,jv γ w w₁->(execOp a.eval o).run P w₁=.ok (.value v) w₁/\∀e∈(execOp a.eval o).events P w₁ #[],YZ γ.1 γ.2 e) (h:K (p,γ) (G (b.at (a.put o.dst v) (.inRegion ops rest::k)) cs) w):K (p,γ) (G (b.at a (.inRegion ops (i::rest)::k)) cs) w:=
 C.step _ _ _ _ λw₁ r=>⟨_,_,_,_,(p,γ),stepG_value ho hw hk (hrun w₁ (YG hp r)).1,stg hp ⟨rfl,KU λe he=>(hrun w₁ (YG hp r)).2 e (mem_listed he)⟩,C.rely _ _ _ _ r h⟩
theorem Nz:(Try.prog.info? 56).map (λi=>(i.zero,i.size,i.bytes))=some (some (.agg #[.int .i64 0,.int .i64 0,.int .i64 0]),3,24):=by kernel_rfl
theorem Md(w:World)(x y s:Int):(Instr.build 56 #[(0,.int .i64 x),(1,.int .i64 y),(2,.int .i64 s)]).run Try.prog w=.ok (.agg #[.int .i64 x,.int .i64 y,.int .i64 s]) w:=
 run_build w 56 _ _ (by kernel_rfl)
theorem Fs(w:World)(es:Array Event)(x y s:Int):(Instr.build 56 #[(0,.int .i64 x),(1,.int .i64 y),(2,.int .i64 s)]).events Try.prog w es=es:=by obtain⟨i0,hi,JU,SU,hz2⟩:=info_parts Nz;obtain⟨i3,hi3,hy0,hy1,hy2⟩:=info_parts UK;simp[Instr.build,run_underlying Try.underlying56,sizeOf,typeInfo,zeroValue,hi,JU,hi3,hy1];split<;>simp
noncomputable def IC:Code:=Try.f58.body.getD .skip
noncomputable def X84:Code:=match IC with|.seq x _=>x|_=>.skip
noncomputable def acu:Code:=match IC with|.seq _ r=>r|_=>.skip
theorem G4(a b:Wk)(x y:Int)(ys:List Int):msgs a b x (y::ys)=(gL a b x y).map (BM x y)++msgs a b x ys:=by simp[msgs]
def air(cf cl bl:Nat)(tv:Value)(γ':Gm)(e:Exit)(a':Act)(w':World):Prop:=e=.normal/\γ'.1=wk cf cl tv []/\bJ γ'.2 w' ⟨bl,0,none⟩ (.chan (some cl))/\a'.defers=[]/\a'.tmps.size=46/\a'.tmps[4]? =some (.pointer (some ⟨bl,0,none⟩))
theorem XR{bb ba bx bf bl:Nat}{vl:Value}{nl k:Nat}{y:Int}{v:Value}{m:Nat}{a:Act}(hd:a.defers=[])(hsz:a.tmps.size=46)(t0:a.tmps[0]? =some (.pointer (some ⟨bb,0,none⟩)))(t1:a.tmps[1]? =some (.pointer (some ⟨ba,0,none⟩)))(t2:a.tmps[2]? =some (.pointer (some ⟨bx,0,none⟩)))(t3:a.tmps[3]? =some (.pointer (some ⟨bf,0,none⟩)))(t4:a.tmps[4]? =some (.pointer (some ⟨bl,0,none⟩)))
  (t6:a.tmps[6]? =some (.int .i64 y)) (t11:a.tmps[11]? =some vl) (t12:a.tmps[12]? =some (.int .i64 nl)) (t13:a.tmps[13]? =some (.int .i64 k)) (t32:a.tmps[32]? =some v) (t33:a.tmps[33]? =some (.int .i64 m)) (t34:a.tmps[34]? =some (.int .i64 0)):∃u,a=UZ bb ba bx bf bl vl nl k y v m 0 u:=by
 obtain⟨T,df⟩:=a;simp only at hd hsz;subst hd;obtain⟨v0,v1,v2,v3,v4,v5,v6,v7,v8,v9,v10,v11,v12,v13,v14,v15,v16,v17,v18,v19,v20,v21,v22,v23,v24,v25,v26,v27,v28,v29,v30,v31,v32,v33,v34,v35,v36,v37,v38,v39,v40,v41,v42,v43,v44,v45,rfl⟩:=abl T hsz;simp at t0 t1 t2 t3 t4 t6 t11 t12 t13 t32 t33 t34;subst t0 t1 t2 t3 t4 t6 t11 t12 t13 t32 t33 t34;exact qy rfl
theorem L4(hP:Plain Try.prog){bb ba bx bf bl cf cl:Nat}{tv:Value}{da db:Wk}{x:Int}(wN:da.ok)(BH:db.ok)(JW:0<=x)(hx3:x<4)
  (ha:gI γ w ba da) (hb:gI γ w bb db) (hx:bJ γ w ⟨bx,0,none⟩ (.int .i64 x)) (hf:bJ γ w ⟨bf,0,none⟩ (.chan (some cf))) (hl:bJ γ w ⟨bl,0,none⟩ (.chan (some cl))):
  KJ (KG Try.prog aa false) 58 (wk cf cl tv (msgs da db x db.bw),γ) X84 (air cf cl bl tv)
   ⟨#[.pointer (some ⟨bb,0,none⟩),.pointer (some ⟨ba,0,none⟩),.pointer (some ⟨bx,0,none⟩),.pointer (some ⟨bf,0,none⟩),.pointer (some ⟨bl,0,none⟩),undef,undef,undef,undef,undef,undef,undef,undef,undef,undef,undef,undef,undef,undef,undef,undef,undef,undef,undef,undef,undef,undef,undef,undef,undef,undef,undef,undef,undef,undef,undef,undef,undef,undef,undef,undef,undef,undef,undef,undef,undef],[]⟩ w:=by
 have C:=BQ (aa:=aa) (main:=false) hP;have hp:∀vs,wk cf cl tv vs≠.ret:=λvs=>(OR vs).1;obtain⟨vl,YM,A,cap,rfl,hA⟩:=hb.bw;have afz:=BH.few;refine bk C (cG C ?_);iterate 2 (refine aq C ?_;try walk_nrm)
 refine jD C (hp _) YM ?_;iterate 2 (try walk_nrm;refine aq C ?_)
 try walk_nrm
 refine aU C ?_;co_then;refine gR C ?_;refine ql C (λn γ' a w'=>∃γ3 k,γ'=(wk cf cl tv (msgs da db x (db.bw.drop k)),γ3)/\Kept γ w γ3 w'/\k<=db.bw.length/\n=db.bw.length-k/\∃u,a=ach bb ba bx bf bl (.slice A db.bw.length cap) db.bw.length k u) (n:=db.bw.length) ⟨γ,0,rfl,Kept.refl _ _,by omega,by omega,qy rfl⟩ ?_;rintro n γ' a w' ⟨γ3,k,hγ,Dm,hk,hn,u,FF⟩;subst hγ;unfold ach at FF;subst FF;refine bk C (cG C ?_);by_cases hlt:k<db.bw.length
 .have YT:decide ((k:Int)<(db.bw.length:Int))=true:=by simpa using hlt
  obtain⟨y,hy⟩:∃y,db.bw[k]? =some y:=⟨_,bQ hlt⟩;obtain⟨ad,hAe,hsA⟩:=hA k y hy;subst hAe;have hyb:=BH.bw k y hy;have UT:db.bw.drop k=y::db.bw.drop (k+1):=by rw[pg hlt];congr 1;exact cB ((bQ hlt).symm.trans hy)
  have hs3:=Dm.sees hsA;have hw5:IntKind.i64.wrap ((k:Int)+1)=(k:Int)+1:=by rw[xG]<;>omega
  refine aq C ?_;try walk_nrm
  refine aU C ?_;co_then;refine bk C (ep C (t:=true) rfl ?_);simp only[if_true];refine kU C ?_;co_then;refine bk C (gR C (bk C (cG C ?_)));refine aq C ?_;try walk_nrm
  refine jD C (hp _) hs3 ?_;try walk_nrm
  refine aq C ?_;try walk_nrm
  refine aU C ?_;co_then;rw[UT,G4];clear hs3 hA;refine bk C (aah C (hp _) (ha.kept Dm) (hb.kept Dm) (Dm.sees hx) JW hx3 hyb.1 (by omega) wN BH rfl rfl rfl rfl rfl rfl ?_);intro v γ4 a4 w4 YS afl hold h32 h33 h34 fR Ym;co_then;obtain⟨A2,ud,rfl,hA2⟩:=fR.HO;obtain⟨u4,ha4⟩:=XR (bb:=bb) (ba:=ba) (bx:=bx) (bf:=bf) (bl:=bl) (vl:=.slice (some ad) db.bw.length cap) (nl:=db.bw.length) (k:=k) YS afl (hold 0 (by omega)) (hold 1 (by omega)) (hold 2 (by omega)) (hold 3 (by omega)) (hold 4 (by omega)) (hold 6 (by omega)) (hold 11 (by omega)) (hold 12 (by omega)) (hold 13 (by omega)) h32 h33 h34;clear hold h32 h33 h34 YS afl fR;have ahR:=Dm.trans Ym;generalize hl0:gL da db x y=l at*;refine gR C ?_;refine ql C (λn γ' a w'=>∃γ5 j,γ'=(wk cf cl tv ((l.drop j).map (BM x y)++msgs da db x (db.bw.drop (k+1))),γ5)/\Kept γ4 w4 γ5 w'/\j<=l.length/\n=l.length-j/\∃u,a=UZ bb ba bx bf bl (.slice (some ad) db.bw.length cap) db.bw.length k y (.slice A2 l.length ud) l.length j u) (n:=l.length) ⟨γ4,0,rfl,Kept.refl _ _,by omega,by omega,u4,ha4⟩ ?_;clear ha4 Dm;rintro n2 γ' a w6 ⟨γ5,j,hγ,OJ,hj,hn2,u,ha5⟩;subst hγ;unfold UZ at ha5;subst ha5;have hk6:=ahR.trans OJ;refine bk C (cG C ?_);by_cases Zk:j<l.length
  .have hd2:decide ((j:Int)<(l.length:Int))=true:=by simpa using Zk
   obtain⟨s,hs⟩:∃s,l[j]? =some s:=⟨_,bQ Zk⟩;obtain⟨ad2,aie,ahG⟩:=hA2 j s hs;subst aie;have aeK:l.drop j=s::l.drop (j+1):=by rw[pg Zk];congr 1;exact cB ((bQ Zk).symm.trans hs)
   have hs5:=OJ.sees ahG;have hf5:=hk6.sees hf;have hx5:=hk6.sees hx;have hw6:IntKind.i64.wrap ((j:Int)+1)=(j:Int)+1:=by
    have h1:=(BH.up y.toNat).1;have h2:=(wN.lo x.toNat).1;have h3:l.length<=2001:=by rw[<-hl0];exact bp (IX _ _ _ _) (by omega)
    rw[xG]<;>omega
   refine aq C ?_;try walk_nrm
   refine aU C ?_;co_then;refine bk C (ep C (t:=true) rfl ?_);simp only[if_true];refine kU C ?_;co_then;refine bk C (gR C (bk C (cG C ?_)));refine aq C ?_;try walk_nrm
   refine jD C (hp _) hs5 ?_;try walk_nrm
   refine aq C ?_;try walk_nrm
   refine aU C ?_;co_then;refine cG C ?_;refine jD C (hp _) hf5 ?_;try walk_nrm
   refine jD C (hp _) hx5 ?_;iterate 2 (try walk_nrm;refine aq C ?_)
   try walk_nrm
   have hbr:=λw=>Md w x y s;have Fw:=λw=>Fs w #[] x y s;refine eE C (v:=?v18) rfl (by rfl) (λw=>run_eq_of λK hK=>?r18) (λw=>?e18) ?h18
   case r18=>go_simp;exact hK
   case e18=>simp[go_sem,Fw]
   try walk_nrm
   clear hbr Fw;rw[aeK];show KO _ _ (Pc.send cf (BM x y s) (wk cf cl tv ((l.drop (j+1)).map (BM x y)++msgs da db x (db.bw.drop (k+1)))),γ5) _ _ _ _ _;refine aaK rfl (by rfl) rfl rfl rfl (OR _).2 (hp _) (λw7 r7=>?_);have Yk:=OJ.trans (Kept.rely r7);clear hs5 hf5 hx5 hk6 OJ;try walk_nrm
   refine aU C ?_;co_then;refine cG C ?_;iterate 2 (refine aq C ?_;try walk_nrm)
   refine aU C (eR ?_);exact⟨l.length-(j+1),by omega,γ5,j+1,rfl,Yk,by omega,rfl,qy rfl⟩
  have hje:j=l.length:=by omega
  subst hje;have hd2:decide ((l.length:Int)<(l.length:Int))=false:=by simp
  simp only[List.drop_length,fe,gQ];refine aq C ?_;try walk_nrm
  refine aU C ?_;co_then;refine bk C (ep C (t:=false) rfl ?_);simp only[aG,if_false];refine oT C ?_;co_then;refine cG C ?_;iterate 2 (refine aq C ?_;try walk_nrm)
  refine aU C (eR ?_);exact⟨db.bw.length-(k+1),by omega,γ5,k+1,rfl,hk6,by omega,rfl,qy rfl⟩
 have OI:k=db.bw.length:=by omega
 subst OI;have YT:decide ((db.bw.length:Int)<(db.bw.length:Int))=false:=by simp
 simp only[List.drop_length];refine aq C ?_;try walk_nrm
 refine aU C ?_;co_then;refine bk C (ep C (t:=false) rfl ?_);simp only[aG,if_false];refine oT C ?_;co_then;exact⟨rfl,rfl,Dm.sees hl,rfl,rfl,rfl⟩
noncomputable def bot:Frame:={(default:Frame)with fn:=Try.prog.funcs.size,defers:=[],mode:=.panicking [goexitEntry]}
def Yu:Frame:={(default:Frame)with fn:=58,kind:=.deferred}
def call84(bb ba bx bf bl:Nat):Deferred:={target:=.fn (.func 58) #[.pointer (some ⟨bb,0,none⟩),.pointer (some ⟨ba,0,none⟩),.pointer (some ⟨bx,0,none⟩),.pointer (some ⟨bf,0,none⟩),.pointer (some ⟨bl,0,none⟩)],args:=#[]}
theorem aam(a:Act)(hd:a.defers=[])(ops:Array Oper):QuitsIn Try.prog 4 (G (Yu.at a [.inRegion ops []]) [bot]):=by
 obtain⟨T,df⟩:=a;simp only at hd;subst hd;refine .inr ⟨rfl,_,λw=>stepG_region_end,?_⟩;refine .inr ⟨rfl,_,λw=>stepG_end,?_⟩;refine .inr ⟨rfl,G bot [],λw=>?_,?_⟩;.simp[G,stepG,unwind,doReturn,results,Frame.at,Yu,bot,Try.func58,Try.f58,seen,GStep.after,goexitEntry]
 refine .inr ⟨rfl,{G bot []with status:=.finished},λw=>?_,rfl⟩;simp[G,stepG,unwind,bot,goexitEntry,Frame.catches];rfl
theorem aeZ(bb ba bx bf bl:Nat)(w:World):stepG Try.prog false (born Try.prog (call84 bb ba bx bf bl)) w=
  .go (G (Yu.at ⟨#[.pointer (some ⟨bb,0,none⟩),.pointer (some ⟨ba,0,none⟩),.pointer (some ⟨bx,0,none⟩),.pointer (some ⟨bf,0,none⟩),.pointer (some ⟨bl,0,none⟩),undef,undef,undef,undef,undef,undef,undef,undef,undef,undef,undef,undef,undef,undef,undef,undef,undef,undef,undef,undef,undef,undef,undef,undef,undef,undef,undef,undef,undef,undef,undef,undef,undef,undef,undef,undef,undef,undef,undef,undef,undef],[]⟩ [.code IC]) [bot]) w #[]:=by
 simp[born,call84,stepG,unwind,callDeferred,invoke,callFunc,Try.func58,Try.f58,seen,GStep.after,G,Frame.enter,Frame.at,Yu,bot,IC]
theorem Rk(hP:Plain Try.prog){bb ba bx bf bl cf cl:Nat}{da db:Wk}{x:Int}(wN:da.ok)(BH:db.ok)(JW:0<=x)(hx3:x<4)
  (ha:gI γ w ba da) (hb:gI γ w bb db) (hx:bJ γ w ⟨bx,0,none⟩ (.int .i64 x)) (hf:bJ γ w ⟨bf,0,none⟩ (.chan (some cf))) (hl:bJ γ w ⟨bl,0,none⟩ (.chan (some cl))):
  Pr Try.prog aa false (wk cf cl (.bool true) (msgs da db x db.bw)) γ (born Try.prog (call84 bb ba bx bf bl)) w:=by
 have C:=BQ (aa:=aa) (main:=false) hP;have hne:=OR (cf:=cf) (cl:=cl) (tv:=.bool true) (msgs da db x db.bw)
 suffices h:KG Try.prog aa false (wk cf cl (.bool true) (msgs da db x db.bw),γ) (born Try.prog (call84 bb ba bx bf bl)) w from h (λ_=>hne.1) hne.2
 refine C.go (fr:=(born Try.prog (call84 bb ba bx bf bl)).frame) (cs:=[]) (λw=>aeZ bb ba bx bf bl w) ?_;show KG Try.prog aa false _ (G (Yu.at _ (.code (.seq X84 acu)::[])) [bot]) w;refine C.go (λw=>stepG_seq) ?_;refine L4 hP wN BH JW hx3 ha hb hx hf hl Yu [.code acu] [bot] rfl (by simp[Yu]) ?_;rintro⟨p',γ'⟩ e a' w' ⟨rfl,tI,iU,xC,hsz',ht4⟩;simp only at tI iU;subst tI;show KG Try.prog aa false _ (G (Yu.at a' (.code (.region _ _ false)::[])) [bot]) w';refine C.go (λw=>stepG_region) ?_;refine PJ C (OR _).1 (v:=.chan (some cl)) rfl (by rfl) (by simp[Yu]) (λw₁ h₁=>⟨run_eq_of λK hK=>?_,?_⟩) ?_
 .have hc:=(iU.rely h₁).2;clear hsz'
  go_simp
  exact hK
 .have hc:=(iU.rely h₁).2;intro e he;simp[go_sem,hc,ht4]at he;subst he;exact(iU.rely h₁).JQ
 refine JI rfl (by rfl) rfl ?_ rfl (by simp[Yu]) ⟨4,QuitsD.of_quitsIn (aam _ (by exact xC) _)⟩;simp[Act.eval,Act.put,hsz']
end Go.Co
namespace Go.Co
open Go Go.Conc Go.Proofs
variable {aa:Machine->Trace->Prop} {γ:So} {w:World}
theorem D2{cf cl:Nat}{z2:Value}{rK:Bool}(k:Nat):JR cf cl z2 rK k≠.ret/\JR cf cl z2 rK k≠.stop:=by cases k<;>simp[JR]
theorem Iw{P:Program}{main:Bool}{fn:FuncId}{ops:Array Oper}{todo:List Nat}{Q:Gm->Exit->Act->World->Prop}{a:Act}:KO (KG P aa main) fn (.bad,γ) ops todo Q a w:=λ_ _ _ _ _ _ _ _=>trivial
theorem abR:(Try.prog.info? 4).map (λi=>(i.zero,i.size,i.bytes))=some (some (.bool false),1,1):=by kernel_rfl
theorem ahy(f:FuncId):(Try.prog.funcs[f]?).any (·.norace)=false:=by
 have h:Try.prog.funcs.all (λf=>!f.norace)=true:=by kernel_rfl
 cases hf:Try.prog.funcs[f]? with
 |none=>rfl
 |some fn=>obtain⟨hlt,rfl⟩:=aL.1 hf;simpa using Array.all_eq_true.1 h f hlt
noncomputable def IB:Code:=Try.f60.body.getD .skip
noncomputable def X85:Code:=match IB with|.seq x _=>x|_=>.skip
noncomputable def acs:Code:=match IB with|.seq _ r=>r|_=>.skip
def afJ(ba bl bf:Nat)(vl:Value)(nl k:Nat)(u:Nat->Value):Act:=
 ⟨#[.pointer (some ⟨ba,0,none⟩),.pointer (some ⟨bl,0,none⟩),.pointer (some ⟨bf,0,none⟩),u 3,u 4,vl,.int .i64 nl,.int .i64 k,u 8,u 9,u 10,u 11,u 12],[]⟩
def Uk(cf cl bf:Nat)(z2:Value)(γ':Gm)(e:Exit)(a':Act)(w':World):Prop:=e=.normal/\γ'.1=JR cf cl z2 false 0/\bJ γ'.2 w' ⟨bf,0,none⟩ (.chan (some cf))/\a'.defers=[]/\a'.tmps.size=13/\a'.tmps[2]? =some (.pointer (some ⟨bf,0,none⟩))
theorem Mq(hP:Plain Try.prog){ba bl bf cf cl:Nat}{da:Wk}(wN:da.ok)
  (ha:gI γ w ba da) (hf:bJ γ w ⟨bf,0,none⟩ (.chan (some cf))) (hl:bJ γ w ⟨bl,0,none⟩ (.chan (some cl))):
  KJ (KG Try.prog aa false) 60 (JR cf cl (.bool false) false da.bw.length,γ) X85 (Uk cf cl bf (.bool false))
   ⟨#[.pointer (some ⟨ba,0,none⟩),.pointer (some ⟨bl,0,none⟩),.pointer (some ⟨bf,0,none⟩),undef,undef,undef,undef,undef,undef,undef,undef,undef,undef],[]⟩ w:=by
 have C:=BQ (aa:=aa) (main:=false) hP;have hp:∀k,JR cf cl (.bool false) false k≠.ret:=λk=>(D2 k).1;obtain⟨vl,YM,A,cap,rfl,-⟩:=ha.bw;have afz:=wN.few;obtain⟨i4,hi4,hy0,hy1,hy2⟩:=info_parts abR;refine bk C (cG C ?_);iterate 2 (refine aq C ?_;try walk_nrm)
 refine jD C (hp _) YM ?_;iterate 2 (try walk_nrm;refine aq C ?_)
 try walk_nrm
 refine aU C ?_;co_then;refine gR C ?_;refine ql C (λn γ' a w'=>∃γ3 k,γ'=(JR cf cl (.bool false) false (da.bw.length-k),γ3)/\Kept γ w γ3 w'/\k<=da.bw.length/\n=da.bw.length-k/\∃u,a=afJ ba bl bf (.slice A da.bw.length cap) da.bw.length k u) (n:=da.bw.length) ⟨γ,0,rfl,Kept.refl _ _,by omega,by omega,qy rfl⟩ ?_;rintro n γ' a w' ⟨γ3,k,hγ,Dm,hk,hn,u,FF⟩;subst hγ;unfold afJ at FF;subst FF;refine bk C (cG C ?_);by_cases hlt:k<da.bw.length
 .have YT:decide ((k:Int)<(da.bw.length:Int))=true:=by simpa using hlt
  have hl3:=Dm.sees hl;have hw5:IntKind.i64.wrap ((k:Int)+1)=(k:Int)+1:=by rw[xG]<;>omega
  refine aq C ?_;try walk_nrm
  refine aU C ?_;co_then;refine bk C (ep C (t:=true) rfl ?_);simp only[if_true];refine kU C ?_;co_then;refine bk C (gR C (cG C ?_));refine jD C (hp _) hl3 ?_;try walk_nrm
  have hm:da.bw.length-k=(da.bw.length-(k+1))+1:=by omega
  rw[hm];show KO _ _ (Pc.recv cl false (.bool false) (λx=>match x with|some _=>JR cf cl (.bool false) false (da.bw.length-(k+1))|none=>.bad),γ3) _ _ _ _ _;refine Jj rfl (by rfl) (λw=>?_) (λw=>?_) (λx=>?_) (λ_ x=>?_) (λx w7 r7=>?_);.simp[execOp,Act.eval,run_underlying Try.underlying116,zeroValue,typeInfo,hi4,hy0,rcase]
  .simp[execOp,Act.eval,run_underlying Try.underlying116,zeroValue,typeInfo,hi4,hy0]
  .cases x with
   |none=>simp
   |some v=>exact(D2 _).2
  .cases x with
   |none=>simp
   |some v=>exact(D2 _).1
  cases x with
  |none=>exact Iw
  |some v=>
   have Yk:=Dm.trans (Kept.rely r7);clear hl3 Dm;simp only[];try walk_nrm
   refine aU C ?_;co_then;refine cG C ?_;iterate 2 (refine aq C ?_;try walk_nrm)
   refine aU C (eR ?_);exact⟨da.bw.length-(k+1),by omega,γ3,k+1,rfl,Yk,by omega,rfl,qy rfl⟩
 have OI:k=da.bw.length:=by omega
 subst OI;have YT:decide ((da.bw.length:Int)<(da.bw.length:Int))=false:=by simp
 simp only[Nat.sub_self];refine aq C ?_;try walk_nrm
 refine aU C ?_;co_then;refine bk C (ep C (t:=false) rfl ?_);simp only[aG,if_false];refine oT C ?_;co_then;exact⟨rfl,rfl,Dm.sees hf,rfl,rfl,rfl⟩
def Yt:Frame:={(default:Frame)with fn:=60,kind:=.deferred}
def call85(ba bl bf:Nat):Deferred:={target:=.fn (.func 60) #[.pointer (some ⟨ba,0,none⟩),.pointer (some ⟨bl,0,none⟩),.pointer (some ⟨bf,0,none⟩)],args:=#[]}
theorem aal(a:Act)(hd:a.defers=[])(ops:Array Oper):QuitsIn Try.prog 4 (G (Yt.at a [.inRegion ops []]) [bot]):=by
 obtain⟨T,df⟩:=a;simp only at hd;subst hd;refine .inr ⟨rfl,_,λw=>stepG_region_end,?_⟩;refine .inr ⟨rfl,_,λw=>stepG_end,?_⟩;refine .inr ⟨rfl,G bot [],λw=>?_,?_⟩;.simp[G,stepG,unwind,doReturn,results,Frame.at,Yt,bot,Try.func60,Try.f60,seen,GStep.after,goexitEntry]
 refine .inr ⟨rfl,{G bot []with status:=.finished},λw=>?_,rfl⟩;simp[G,stepG,unwind,bot,goexitEntry,Frame.catches];rfl
theorem aeY(ba bl bf:Nat)(w:World):stepG Try.prog false (born Try.prog (call85 ba bl bf)) w=
  .go (G (Yt.at ⟨#[.pointer (some ⟨ba,0,none⟩),.pointer (some ⟨bl,0,none⟩),.pointer (some ⟨bf,0,none⟩),undef,undef,undef,undef,undef,undef,undef,undef,undef,undef],[]⟩ [.code IB]) [bot]) w #[]:=by
 simp[born,call85,stepG,unwind,callDeferred,invoke,callFunc,Try.func60,Try.f60,seen,GStep.after,G,Frame.enter,Frame.at,Yt,bot,IB]
theorem SL(hP:Plain Try.prog){ba bl bf cf cl:Nat}{da:Wk}(wN:da.ok)
  (ha:gI γ w ba da) (hf:bJ γ w ⟨bf,0,none⟩ (.chan (some cf))) (hl:bJ γ w ⟨bl,0,none⟩ (.chan (some cl))):
  Pr Try.prog aa false (JR cf cl (.bool false) false da.bw.length) γ (born Try.prog (call85 ba bl bf)) w:=by
 have C:=BQ (aa:=aa) (main:=false) hP;have hne:=D2 (cf:=cf) (cl:=cl) (z2:=.bool false) (rK:=false) da.bw.length
 suffices h:KG Try.prog aa false (JR cf cl (.bool false) false da.bw.length,γ) (born Try.prog (call85 ba bl bf)) w from h (λ_=>hne.1) hne.2
 refine C.go (fr:=(born Try.prog (call85 ba bl bf)).frame) (cs:=[]) (λw=>aeY ba bl bf w) ?_;show KG Try.prog aa false _ (G (Yt.at _ (.code (.seq X85 acs)::[])) [bot]) w;refine C.go (λw=>stepG_seq) ?_;refine Mq hP wN ha hf hl Yt [.code acs] [bot] rfl (by simp[Yt]) ?_;rintro⟨p',γ'⟩ e a' w' ⟨rfl,tI,Yo,xC,hsz',ht2⟩;simp only at tI Yo;subst tI;show KG Try.prog aa false _ (G (Yt.at a' (.code (.region _ _ false)::[])) [bot]) w';refine C.go (λw=>stepG_region) ?_;refine PJ C (D2 _).1 (v:=.chan (some cf)) rfl (by rfl) (by simp[Yt]) (λw₁ h₁=>⟨run_eq_of λK hK=>?_,?_⟩) ?_
 .have hc:=(Yo.rely h₁).2;clear hsz'
  go_simp
  exact hK
 .have hc:=(Yo.rely h₁).2;intro e he;simp[go_sem,hc,ht2]at he;subst he;exact(Yo.rely h₁).JQ
 refine F5 ahy rfl (by rfl) rfl ?_ (by simp[Yt]) ⟨4,QuitsD.of_quitsIn (aal _ (by exact xC) _)⟩;simp[Act.eval,Act.put,hsz']
end Go.Co
namespace Go.Co
open Go Go.Conc Go.Proofs
open Classical
variable {P:Program} {aa:Machine->Trace->Prop} {γ:So} {w:World}
theorem LY{b:Nat}:γ.give.all b↔γ.all b:=⟨λh=>h.elim id λh=>h.elim,.inl⟩
theorem bJ.give {ad:Addr}{v:Value}(h:bJ γ w ad v):bJ γ.give w ad v:=⟨LY.2 h.1,h.2⟩
theorem Au.give {v:Value}{l:List Int}(h:Au γ w v l):Au γ.give w v l:=by obtain⟨A,cap,rfl,h⟩:=h;exact⟨A,cap,rfl,λi x hx=>by obtain⟨ad,h1,h2⟩:=h i x hx;exact⟨ad,h1,h2.give⟩⟩
theorem gI.give {b:Nat}{d:Wk}(h:gI γ w b d):gI γ.give w b d:=
 ⟨h.cH.give,h.bw.imp λ_ ⟨h1,h2⟩=>⟨h1.give,h2.give⟩,λi hi=>(h.up i hi).imp λ_ ⟨h1,h2⟩=>⟨h1.give,h2.give⟩,λi hi=>(h.lo i hi).imp λ_ ⟨h1,h2⟩=>⟨h1.give,h2.give⟩⟩
theorem Kept.put {γ0:So}{w0:World}{ad:Addr}{v:Value}(k:Kept γ0 w0 γ w)(h:w0.heap.size<=ad.block):Kept γ0 w0 γ (w.setCell ad v):=
 ⟨k.shr,k.own,λb hb hlt=>(heap_setCell_other _ _ _ _ (by omega)).trans (k.blk b hb hlt),by rw[World.size_setCell];exact k.size,k.env⟩
structure J2 (A:Nat->Prop) (B0:Nat) (w0:World) (γ:So) (w:World):Prop where
 lt:∀b,A b->b<B0
 all:∀b,A b->γ.all b
 blk:∀b,A b->w.heap[b]? =w0.heap[b]?
 size:B0<=w.heap.size
 env:w.os=w0.os/\w.output=w0.output
theorem J2.kept {A:Nat->Prop}{B0:Nat}{w0 w':World}{γ':So}(h:J2 A B0 w0 γ w)(k:Kept γ w γ' w'):J2 A B0 w0 γ' w':=
 ⟨h.lt,λb hb=>k.all (h.all b hb),λb hb=>(k.blk b (h.all b hb) (dM (h.lt b hb) h.size)).trans (h.blk b hb),bp h.size k.size,k.env.1.trans h.env.1,k.env.2.trans h.env.2⟩
theorem J2.give {A:Nat->Prop}{B0:Nat}{w0:World}(h:J2 A B0 w0 γ w):J2 A B0 w0 γ.give w:=⟨h.lt,λb hb=>LY.2 (h.all b hb),h.blk,h.size,h.env⟩
structure Fx (da db:Wk) (b2 b3 b5 b6 cf cl:Nat) (γ:So) (w:World):Prop where
 wa:gI γ w b2 da
 wb:gI γ w b3 db
 f:bJ γ w ⟨b5,0,none⟩ (.chan (some cf))
 l:bJ γ w ⟨b6,0,none⟩ (.chan (some cl))
theorem Fx.kept {da db:Wk}{b2 b3 b5 b6 cf cl:Nat}{γ':So}{w':World}(h:Fx da db b2 b3 b5 b6 cf cl γ w)(k:Kept γ w γ' w'):Fx da db b2 b3 b5 b6 cf cl γ' w':=⟨h.wa.kept k,h.wb.kept k,k.sees h.f,k.sees h.l⟩
theorem Fx.give {da db:Wk}{b2 b3 b5 b6 cf cl:Nat}(h:Fx da db b2 b3 b5 b6 cf cl γ w):Fx da db b2 b3 b5 b6 cf cl γ.give w:=⟨h.wa.give,h.wb.give,h.f.give,h.l.give⟩
def O5(b2 b3 b5 b6:Nat)(u:Nat->Value):Act:=
 ⟨#[u 0,u 1,.pointer (some ⟨b2,0,none⟩),.pointer (some ⟨b3,0,none⟩),u 4,.pointer (some ⟨b5,0,none⟩),.pointer (some ⟨b6,0,none⟩),u 7,u 8,u 9,u 10,u 11,u 12,u 13,u 14,u 15,u 16,u 17,u 18,u 19,u 20,u 21,u 22,u 23,u 24,u 25,u 26,u 27,u 28,u 29,u 30,u 31,u 32,u 33,u 34],[]⟩
def Ks(b2 b3 b5 b6:Nat)(vl:Value)(nl k:Nat)(u:Nat->Value):Act:=
 ⟨#[u 0,u 1,.pointer (some ⟨b2,0,none⟩),.pointer (some ⟨b3,0,none⟩),u 4,.pointer (some ⟨b5,0,none⟩),.pointer (some ⟨b6,0,none⟩),u 7,u 8,u 9,u 10,u 11,u 12,u 13,u 14,vl,.int .i64 nl,.int .i64 k,u 18,u 19,u 20,u 21,u 22,u 23,u 24,u 25,u 26,u 27,u 28,u 29,u 30,u 31,u 32,u 33,u 34],[]⟩
def aiA(b2 b3 b5 b6 cf:Nat)(out:Value)(u:Nat->Value):Act:=
 ⟨#[u 0,u 1,.pointer (some ⟨b2,0,none⟩),.pointer (some ⟨b3,0,none⟩),u 4,.pointer (some ⟨b5,0,none⟩),.pointer (some ⟨b6,0,none⟩),u 7,u 8,out,u 10,u 11,u 12,u 13,u 14,u 15,u 16,u 17,u 18,u 19,u 20,u 21,u 22,u 23,.chan (some cf),u 25,u 26,u 27,u 28,u 29,u 30,u 31,u 32,u 33,u 34],[]⟩
noncomputable def ae1:Code:=Try.f33.body.getD .skip
noncomputable def sZ:Code:=match ae1 with|.seq _ (.seq _ (.seq _ x))=>x|_=>.skip
noncomputable def afP:Code:=match sZ with|.seq x _=>x|_=>.skip
theorem LO{cf cl:Nat}{tv z2:Value}{rK:Bool}{K:Nat}{p:Pc}(todo:List (List Value)):chain cf cl tv z2 rK K p todo≠.ret/\chain cf cl tv z2 rK K p todo≠.stop:=by cases todo<;>simp[chain]
def ais(da db:Wk)(b2 b3 b5 b6 cf cl:Nat)(K:Nat)(p:Pc)(A:Nat->Prop)(B0:Nat)(w0:World)(γ':Gm)(e:Exit)(a':Act)(w':World):Prop:=
 e=.normal/\γ'.1=chain cf cl (.bool true) (.bool false) false K p []/\J2 A B0 w0 γ'.2 w'/\Fx da db b2 b3 b5 b6 cf cl γ'.2 w'/\(∀b,A b->γ'.2.1 b\/γ'.2.2 b)/\∃vl nl k u,a'=Ks b2 b3 b5 b6 vl nl k u
theorem aec(hP:Plain Try.prog){b2 b3 b5 b6 cf cl:Nat}{da db:Wk}(wN:da.ok)(BH:db.ok){K:Nat}{p:Pc}{A:Nat->Prop}{B0:Nat}{w0:World}(hS:J2 A B0 w0 γ w)(hF:Fx da db b2 b3 b5 b6 cf cl γ w)(u:Nat->Value):
  KJ (KG Try.prog aa true) 33 (chain cf cl (.bool true) (.bool false) false K p (da.bw.map λx=>msgs da db x db.bw),γ) afP (ais da db b2 b3 b5 b6 cf cl K p A B0 w0) (O5 b2 b3 b5 b6 u) w:=by
 have C:=BQ (aa:=aa) (main:=true) hP;have hp:∀todo,chain cf cl (.bool true) (.bool false) false K p todo≠.ret:=λtodo=>(LO todo).1;obtain⟨v0,YN,AA,cap,rfl,hA⟩:=hF.wa.bw;have hI:Au γ w (.slice AA da.bw.length cap) da.bw:=⟨AA,cap,rfl,hA⟩;have afz:=wN.few;unfold O5;refine bk C (cG C ?_);iterate 2 (refine aq C ?_;try walk_nrm)
 refine jD C (hp _) YN ?_;iterate 2 (try walk_nrm;refine aq C ?_)
 try walk_nrm
 refine aU C ?_;co_then;refine gR C ?_;clear YN hA;refine ql C (λn γ' a w'=>∃γ3 k,γ'=(chain cf cl (.bool true) (.bool false) false K p ((da.bw.drop k).map λx=>msgs da db x db.bw),γ3)/\J2 A B0 w0 γ3 w'/\Fx da db b2 b3 b5 b6 cf cl γ3 w'/\Au γ3 w' (.slice AA da.bw.length cap) da.bw/\k<=da.bw.length/\n=da.bw.length-k/\∃u,a=Ks b2 b3 b5 b6 (.slice AA da.bw.length cap) da.bw.length k u) (n:=da.bw.length) ⟨γ,0,rfl,hS,hF,hI,by omega,by omega,qy rfl⟩ ?_;clear hS hF hI;rintro n γ' a w' ⟨γ3,k,hγ,hS,hF,hI,hk,hn,u,FF⟩;subst hγ;unfold Ks at FF;subst FF;refine bk C (cG C ?_);by_cases hlt:k<da.bw.length
 .have YT:decide ((k:Int)<(da.bw.length:Int))=true:=by simpa using hlt
  obtain⟨x,hx⟩:∃x,da.bw[k]? =some x:=⟨_,bQ hlt⟩;have hxb:=wN.bw k x hx;obtain⟨ad,rfl,hsA⟩:∃ad,AA=some ad/\bJ γ3 w' (ad.add k) (.int .i64 x):=by obtain⟨A2,ud,he,h2⟩:=hI;cases he;exact h2 k x hx
  have UT:da.bw.drop k=x::da.bw.drop (k+1):=by rw[pg hlt];congr 1;exact cB ((bQ hlt).symm.trans hx)
  have hw5:IntKind.i64.wrap ((k:Int)+1)=(k:Int)+1:=by rw[xG]<;>omega
  refine aq C ?_;try walk_nrm
  refine aU C ?_;co_then;refine bk C (ep C (t:=true) rfl ?_);simp only[if_true];refine kU C ?_;co_then;refine bk C (gR C (bk C (cG C ?_)));refine aq C ?_;try walk_nrm
  refine jD C (hp _) hsA ?_;try walk_nrm
  refine rD C (hp _) (ob:=?ob9) rfl (by rfl) (λw=>run_eq_of λK hK=>?r9) (λw=>?e9) ?h9
  case r9=>go_simp;exact hK
  case e9=>simp[go_sem]
  intro w5 YF;try walk_nrm
  have OJ:=(Kept.rely YF).trans (Kept.alloc γ3 w5 w5.heap.size (.cells #[.int .i64 0] 3));have hz5:(w5.alloc (.cells #[.int .i64 0] 3)).frozen? ⟨w5.heap.size,0,none⟩=false:=World.frozen?_alloc_new _ _ _ _;have hs5:bJ _ _ ⟨w5.heap.size,0,none⟩ (.int .i64 0):=bJ.fresh (γ:=γ3) (w:=w5) (cs:=#[.int .i64 0]) (t:=3) rfl rfl;have S7:(γ3.more w5.heap.size).2 w5.heap.size:=.inr rfl;have MX:w'.heap.size<=w5.heap.size:=YF.1;generalize w5.alloc (.cells #[.int .i64 0] 3)=w6 at*;generalize γ3.more w5.heap.size=γ6 at*;generalize w5.heap.size=b8 at*;clear hsA YF;refine Nw C (hp _) (ad:=⟨b8,0,none⟩) (v:=.int .i64 x) rfl (by rfl) S7 (λw₁ h₁=>⟨?_,?_⟩) ?_
  .have hc:=(hs5.rely h₁).2;have hz:w₁.frozen? ⟨b8,0,none⟩=false:=(World.frozen?_of_block (h₁.2.1 b8 (.inr S7))).trans hz5;refine(?_:∀K:Result Next->Prop,K (.ok .skip (w₁.setCell ⟨b8,0,none⟩ (.int .i64 x)))->K _) (·=_) rfl;intro K hK
   go_simp
   try(unfold stored;go_simp)
   exact hK
  .have hc:=(hs5.rely h₁).2;have hz:w₁.frozen? ⟨b8,0,none⟩=false:=(World.frozen?_of_block (h₁.2.1 b8 (.inr S7))).trans hz5;intro e he;simp[go_sem,hc,hz]at he;exact he
  intro w7 r7;try walk_nrm
  have Yk:=(OJ.trans (Kept.rely r7)).put (ad:=⟨b8,0,none⟩) (v:=.int .i64 x) MX;have hx7:bJ γ6 (w7.setCell ⟨b8,0,none⟩ (.int .i64 x)) ⟨b8,0,none⟩ (.int .i64 x):=⟨.inr S7,World.cell?_setCell_same _ _ _ (hs5.rely r7).2⟩;generalize w7.setCell ⟨b8,0,none⟩ (.int .i64 x)=w8 at*;clear hs5 hz5 r7 OJ MX;have hF8:=hF.kept Yk;have hS8:=hS.kept Yk;have hI8:=Yk.HO hI;clear hF hS hI Yk;refine aU C ?_;co_then;refine cG C ?_;refine eE C (v:=?v10) rfl (by rfl) (λw=>run_eq_of λK hK=>?r10) (λw=>?e10) ?wO
  case r10=>go_simp;exact hK
  case e10=>simp[go_sem,Instr.makeFunc]
  try walk_nrm
  rw[UT,aV];show KO _ _ (Pc.go (wk cf cl (.bool true) (msgs da db x db.bw)) (chain cf cl (.bool true) (.bool false) false K p ((da.bw.drop (k+1)).map λx=>msgs da db x db.bw)),γ6) _ _ _ _ _;refine abQ (d:=call84 b3 b2 b8 b5 b6) (f:=.func 58) (cap:=#[.pointer (some ⟨b3,0,none⟩),.pointer (some ⟨b2,0,none⟩),.pointer (some ⟨b8,0,none⟩),.pointer (some ⟨b5,0,none⟩),.pointer (some ⟨b6,0,none⟩)]) rfl (by rfl) (λw=>?_) (λw=>?_) rfl (LO _).2 (λ_=>hp _) (λw9 r9 w10 r10=>?_) (λw9 r9 w10 r10=>?_);.simp[execOp,resolve,Act.eval,call84,Deferred.ofValue]
  .simp[execOp,resolve,Act.eval,Deferred.ofValue]
  .have hk:=(Kept.rely r9);have rq:=(Kept.rely r10);have QW:=((hF8.kept hk).give).kept rq;exact Rk hP wN BH hxb.1 (by omega) QW.wa QW.wb (rq.sees (hk.sees hx7).give) QW.f QW.l
  have QW:=((hF8.kept (Kept.rely r9)).give).kept (Kept.rely r10);have hS9:=((hS8.kept (Kept.rely r9)).give).kept (Kept.rely r10);have hI9:=(Kept.rely r10).HO ((Kept.rely r9).HO hI8).give;clear hF8 hS8 hI8 hx7;try walk_nrm
  refine aU C ?_;co_then;refine cG C ?_;iterate 2 (refine aq C ?_;try walk_nrm)
  refine aU C (eR ?_);exact⟨da.bw.length-(k+1),by omega,_,k+1,rfl,hS9,QW,hI9,by omega,rfl,qy rfl⟩
 have OI:k=da.bw.length:=by omega
 subst OI;have YT:decide ((da.bw.length:Int)<(da.bw.length:Int))=false:=by simp
 simp only[List.drop_length,fe];refine aq C ?_;try walk_nrm
 refine aU C ?_;co_then;refine bk C (ep C (t:=false) rfl ?_);simp only[aG,if_false];refine oT C ?_;co_then;exact⟨rfl,rfl,hS,hF,hS.all,_,_,_,qy (F:=λu=>Ks b2 b3 b5 b6 (.slice AA da.bw.length cap) da.bw.length da.bw.length u) rfl⟩
end Go.Co
namespace Go.Co
open Go Go.Conc Go.Proofs
open Classical
variable {P:Program} {aa:Machine->Trace->Prop} {main:Bool} {K:Gm->Goroutine->World->Prop} {fn:FuncId} {p:Pc} {γ:So} {Q:Gm->Exit->Act->World->Prop} {a:Act} {w:World} {ops:Array Oper} {i:Nat} {rest:List Nat} {o:Oper}
theorem aaL(C:KC P main K CY HW)(hp:p≠.ret){b:Nat}{x y z:Value}(ho:ops[i]? =some o)(hw:Region.wanted o (yielded ops a.tmps)=true)(hO:γ.2 b)
  (hrun:∀w₁,jv γ w w₁->(execOp a.eval o).run P w₁=.ok .skip (((w₁.setCell ⟨b,0,none⟩ x).setCell ⟨b,1,none⟩ y).setCell ⟨b,2,none⟩ z)/\∀e∈(execOp a.eval o).events P w₁ #[],∃j,e=⟨.cell ⟨b,j,none⟩,true,false⟩)
  (h:∀w₁,jv γ w w₁->KO K fn (p,γ) ops rest Q (a.put o.dst undef) (((w₁.setCell ⟨b,0,none⟩ x).setCell ⟨b,1,none⟩ y).setCell ⟨b,2,none⟩ z)):KO K fn (p,γ) ops (i::rest) Q a w:=
 y9 C ho hw λw₁ r=>by
  obtain⟨h1,h2⟩:=hrun w₁ (YG hp r);rw[h1];have hsz:(((w₁.setCell ⟨b,0,none⟩ x).setCell ⟨b,1,none⟩ y).setCell ⟨b,2,none⟩ z).heap.size=w₁.heap.size:=by rw[World.size_setCell,World.size_setCell,World.size_setCell]
  refine⟨(p,γ),stg hp ⟨rfl,λc=>⟨.inl,λh=>h.elim id λh=>absurd h.2 (by omega)⟩,by omega,λc _ hn=>?_,rfl,rfl,rfl,λe he=>?_⟩,h w₁ (YG hp r)⟩;.have hne:c≠b:=λe=>hn (e▸hO);rw[heap_setCell_other _ _ _ _ hne,heap_setCell_other _ _ _ _ hne,heap_setCell_other _ _ _ _ hne]
  obtain⟨j,rfl⟩:=h2 e (mem_listed he);exact .inl ⟨_,true,false,rfl,λ_=>hO,.inr hO⟩
theorem J2.append {A:Nat->Prop}{B0:Nat}{w0 w':World}{γ':So}{v:Value}(h:J2 A B0 w0 γ w)(h1:γ'.1=γ.1)(h2:∀b,γ.2 b->γ'.2 b)(h3:w.heap.size<=w'.heap.size)
  (h4:∀b,γ.all b->b<w.heap.size->some b≠v.ownBlock->w'.heap[b]? =w.heap[b]?) (h5:w'.os=w.os/\w'.output=w.output) (hb:∀b,v.ownBlock=some b->B0<=b):J2 A B0 w0 γ' w':=
 ⟨h.lt,λb hlt=>(h.all b hlt).imp (by rw[h1];exact id) (h2 b),λb hlt=>(h4 b (h.all b hlt) (dM (h.lt b hlt) h.size) λe=>by have:=hb b e.symm;have:=h.lt b hlt;omega).trans (h.blk b hlt),bp h.size h3,h5.1.trans h.env.1,h5.2.trans h.env.2⟩
abbrev Sm:=Int×Int×Int
def wL(m:Sm):Value:=BM m.1 m.2.1 m.2.2
def sN(m:Sm):List Value:=[.int .i64 m.1,.int .i64 m.2.1,.int .i64 m.2.2]
theorem JK{id:Nat}{R:Exit->Act->World->Prop}(h:R .normal a w):Exit.inBlock id R .normal a w:=h
theorem IV(l:List Sm):(l.flatMap sN).length=l.length*3:=by
 induction l with
 |nil=>rfl
 |cons m l ih=>simp only[cM,cD,ih,sN,dw,kX];omega
theorem Z4{m m':Sm}(h:wL m=wL m'):m=m':=by obtain⟨a,b,c⟩:=m;obtain⟨a',b',c'⟩:=m';simp[wL,BM]at h;obtain⟨rfl,rfl,rfl⟩:=h;rfl
theorem HB(m:Sm):∀l:List Sm,(l.map wL).erase (wL m)=(l.erase m).map wL
 |[]=>rfl
 |a::l=>by
  rw[aV,List.erase_cons,List.erase_cons];by_cases h:a=m;.subst h;simp
  have h2:¬wL a=wL m:=λe=>h (Z4 e);simp[h,h2,HB m l]
theorem aa9(cf:Nat)(z:Value):CX cf z []=.recv cf true z λx=>match x with|some _=>.bad|none=>.ret:=rfl
theorem X3(cf:Nat)(z v0:Value)(vs:List Value):CX cf z (v0::vs)=.recv cf true z λx=>match x with|some v=>if v∈v0::vs then CX cf z ((v0::vs).erase v)else .bad|none=>.bad:=by
 unfold CX;show Pc.recv cf true z (λx=>match x with|some v=>if v∈v0::vs then Zs cf z vs.length ((v0::vs).erase v)else .bad|none=>.bad)=_;congr 1;funext x;cases x with
 |none=>rfl
 |some v=>
  simp only;split;.rename_i h;rw[Df h];rfl
  rfl
def U0(out:Value)(u:Nat->Value):Act:=
 ⟨#[u 0,u 1,u 2,u 3,u 4,u 5,u 6,u 7,u 8,out,u 10,u 11,u 12,u 13,u 14,u 15,u 16,u 17,u 18,u 19,u 20,u 21,u 22,u 23,u 24,u 25,u 26,u 27,u 28,u 29,u 30,u 31,u 32,u 33,u 34],[]⟩
def O6(cf:Nat)(out:Value)(u:Nat->Value):Act:=
 ⟨#[u 0,u 1,u 2,u 3,u 4,u 5,u 6,u 7,u 8,out,u 10,u 11,u 12,u 13,u 14,u 15,u 16,u 17,u 18,u 19,u 20,u 21,u 22,u 23,.chan (some cf),u 25,u 26,u 27,u 28,u 29,u 30,u 31,u 32,u 33,u 34],[]⟩
def adz(A:Nat->Prop)(B0:Nat)(w0:World)(R:List Sm)(γ':Gm)(e:Exit)(a':Act)(w':World):Prop:=
 e=.normal/\γ'.1=.ret/\J2 A B0 w0 γ'.2 w'/\∃(got:List Sm)(out:Value),got.Perm R/\w'.ownsRow B0 56 3 out got.length (got.flatMap sN)/\∃u,a'=U0 out u
noncomputable def U9:Code:=match sZ with|.seq _ (.seq _ (.seq _ (.seq (.seq _ x) _)))=>x|_=>.skip
theorem X2(hP:Plain Try.prog){cf:Nat}{A:Nat->Prop}{B0:Nat}{w0:World}{R:List Sm}(hR:R.length<=4294967296)(hS:J2 A B0 w0 γ w)(u:Nat->Value):
  KJ (KG Try.prog aa true) 33 (CX cf (.agg #[.int .i64 0,.int .i64 0,.int .i64 0]) (R.map wL),γ) U9 (adz A B0 w0 R) (O6 cf (.slice none 0 0) u) w:=by
 have C:=BQ (aa:=aa) (main:=true) hP;obtain⟨i0,Dp,JU,SU,hz2⟩:=info_parts Nz;have hzv:∀w,(zeroValue 56).run Try.prog w=.ok (.agg #[.int .i64 0,.int .i64 0,.int .i64 0]) w:=λw=>by simp[zeroValue,typeInfo,Dp,JU]
 have hze:∀w es,(zeroValue 56).events Try.prog w es=es:=λw es=>by simp[zeroValue,typeInfo,Dp,JU]
 have hrun:∀(T:Act)(o:Oper)(w:World),o.op=.recv 115 (.tmp 24) true->T.eval (.tmp 24)=.chan (some cf)->(execOp T.eval o).run Try.prog w=.ok (.comm #[rcase cf (.agg #[.int .i64 0,.int .i64 0,.int .i64 0])] true (.recv true)) w:=by intro T o w ho hT;simp[execOp,ho,run_underlying Try.underlying115,hzv,rcase,hT]
 have wU:∀(T:Act)(o:Oper)(w:World),o.op=.recv 115 (.tmp 24) true->(execOp T.eval o).events Try.prog w #[]=#[]:=by intro T o w ho;simp[execOp,ho,run_underlying Try.underlying115,hze]
 refine gR C ?_;refine ql C (λn γ' a w'=>∃(γ3:So)(rem got:List Sm)(out:Value),γ'=(CX cf (.agg #[.int .i64 0,.int .i64 0,.int .i64 0]) (rem.map wL),γ3)/\J2 A B0 w0 γ3 w'/\lZ γ3 w' B0 56 3 out got.length (got.flatMap sN)/\(got++rem).Perm R/\n=rem.length/\∃u,a=O6 cf out u) (n:=R.length) ⟨γ,R,[],.slice none 0 0,rfl,hS,lZ.nil _ _ _,by simp,rfl,u,rfl⟩ ?_;clear hS;rintro n γ' a w' ⟨γ3,rem,got,out,hγ,hS,fR,UM,hn,u,FF⟩;subst hγ;unfold O6 at FF;subst FF;have hlen:got.length+rem.length<=4294967296:=by have h1:=UM.length_eq;rw[cD]at h1;omega
 refine bk C (cG C ?_);cases rem with
 |nil=>
  simp only[fe];rw[aa9];refine Jj rfl (by rfl) (λw=>hrun _ _ w rfl rfl) (λw=>wU _ _ w rfl) (λx=>by cases x<;>simp) (λh=>by cases h) (λx w7 r7=>?_);cases x with
  |some v=>exact Iw
  |none=>
   have hS7:=hS.kept (Kept.rely r7);have Gq:=fR.rely r7;simp only[Option.getD_none,Option.isSome_none,recvd];try walk_nrm
   refine aq C ?_;try walk_nrm
   refine aU C ?_;co_then;refine bk C (ep C (t:=false) rfl ?_);simp only[aG,if_false];refine oT C ?_;co_then;exact⟨rfl,rfl,hS7,got,out,by simpa using UM,Gq.1,qy (F:=λu=>U0 out u) rfl⟩
 |cons m0 ms=>
  simp only[aV];rw[X3];refine Jj rfl (by rfl) (λw=>hrun _ _ w rfl rfl) (λw=>wU _ _ w rfl) (λx=>?_) (λh=>by cases h) (λx w7 r7=>?_)
  .cases x with
   |none=>simp
   |some v=>
    simp only;split;.obtain⟨q,hq⟩:=wH (cf:=cf) (z:=.agg #[.int .i64 0,.int .i64 0,.int .i64 0]) ((wL m0::ms.map wL).erase v);rw[hq];simp
    simp
  cases x with
  |none=>exact Iw
  |some v=>
   simp only;by_cases hv:v∈wL m0::ms.map wL
   .rw[if_pos hv];obtain⟨m,hm,rfl⟩:∃m,m∈m0::ms/\wL m=v:=by have:v∈(m0::ms).map wL:=hv;exact dL.1 this
    have ahK:(wL m0::ms.map wL).erase (wL m)=((m0::ms).erase m).map wL:=HB m (m0::ms);rw[ahK];have hp2:=List.perm_cons_erase hm;have UO:=Df hm;generalize(m0::ms).erase m=Y8 at*;obtain⟨x,y,s⟩:=m;have hp:CX cf (.agg #[.int .i64 0,.int .i64 0,.int .i64 0]) (Y8.map wL)≠.ret:=by obtain⟨q,hq⟩:=wH (cf:=cf) (z:=.agg #[.int .i64 0,.int .i64 0,.int .i64 0]) (Y8.map wL);rw[hq];simp
    have hS7:=hS.kept (Kept.rely r7);have Gq:=fR.rely r7;clear hS fR;simp only[mC,Option.isSome_some,recvd,wL,BM];try walk_nrm
    refine aq C ?_;try walk_nrm
    refine aU C ?_;co_then;refine bk C (ep C (t:=true) rfl ?_);simp only[if_true];refine kU C ?_;co_then;refine gR C (bk C (cG C ?_));refine aq C ?_;try walk_nrm
    refine rD C hp (ob:=?ob4) rfl (by rfl) (λw=>run_eq_of λK hK=>?r4) (λw=>?e4) ?h4
    case r4=>go_simp;exact hK
    case e4=>simp[go_sem]
    intro w5 YF;try walk_nrm
    have OJ:=(Kept.rely YF).trans (Kept.alloc γ3 w5 w5.heap.size (.cells #[.int .i64 0,.int .i64 0,.int .i64 0] 56));have hz5:∀j,(w5.alloc (.cells #[.int .i64 0,.int .i64 0,.int .i64 0] 56)).frozen? ⟨w5.heap.size,j,none⟩=false:=λj=>World.frozen?_alloc_new _ _ _ _;have h50:bJ _ _ ⟨w5.heap.size,0,none⟩ (.int .i64 0):=bJ.fresh (γ:=γ3) (w:=w5) (cs:=#[.int .i64 0,.int .i64 0,.int .i64 0]) (t:=56) rfl rfl;have h51:bJ _ _ ⟨w5.heap.size,1,none⟩ (.int .i64 0):=bJ.fresh (γ:=γ3) (w:=w5) (cs:=#[.int .i64 0,.int .i64 0,.int .i64 0]) (t:=56) rfl rfl;have h52:bJ _ _ ⟨w5.heap.size,2,none⟩ (.int .i64 0):=bJ.fresh (γ:=γ3) (w:=w5) (cs:=#[.int .i64 0,.int .i64 0,.int .i64 0]) (t:=56) rfl rfl;have S7:(γ3.more w5.heap.size).2 w5.heap.size:=.inr rfl;have MX:w7.heap.size<=w5.heap.size:=YF.1;generalize w5.alloc (.cells #[.int .i64 0,.int .i64 0,.int .i64 0] 56)=w6 at*;generalize γ3.more w5.heap.size=γ6 at*;generalize w5.heap.size=b8 at*;clear YF;refine aaL C hp (b:=b8) (x:=.int .i64 x) (y:=.int .i64 y) (z:=.int .i64 s) rfl (by rfl) S7 (λw₁ h₁=>⟨?_,?_⟩) ?_
    .have hc0:=(h50.rely h₁).2;have Dq:=(h51.rely h₁).2;have Aw:=(h52.rely h₁).2;have hz:∀j,w₁.frozen? ⟨b8,j,none⟩=false:=λj=>(World.frozen?_of_block (h₁.2.1 b8 (.inr S7))).trans (hz5 j);refine(?_:∀K:Result Next->Prop,K (.ok .skip (((w₁.setCell ⟨b8,0,none⟩ (.int .i64 x)).setCell ⟨b8,1,none⟩ (.int .i64 y)).setCell ⟨b8,2,none⟩ (.int .i64 s)))->K _) (·=_) rfl;intro K hK
     go_simp
     try(unfold stored;go_simp)
     exact hK
    .have hc0:=(h50.rely h₁).2;have Dq:=(h51.rely h₁).2;have Aw:=(h52.rely h₁).2;have hz:∀j,w₁.frozen? ⟨b8,j,none⟩=false:=λj=>(World.frozen?_of_block (h₁.2.1 b8 (.inr S7))).trans (hz5 j);intro e he;simp[go_sem,hc0,Dq,Aw,hz]at he;rcases he with rfl|rfl|rfl;.exact⟨0,rfl⟩
     .exact⟨1,rfl⟩
     exact⟨2,rfl⟩
    intro w9 r9;try walk_nrm
    have hk9:=(((OJ.trans (Kept.rely r9)).put (ad:=⟨b8,0,none⟩) (v:=.int .i64 x) MX).put (ad:=⟨b8,1,none⟩) (v:=.int .i64 y) MX).put (ad:=⟨b8,2,none⟩) (v:=.int .i64 s) MX;have s0:bJ γ6 (((w9.setCell ⟨b8,0,none⟩ (.int .i64 x)).setCell ⟨b8,1,none⟩ (.int .i64 y)).setCell ⟨b8,2,none⟩ (.int .i64 s)) ⟨b8,0,none⟩ (.int .i64 x):=
     bJ.put (bJ.put ⟨.inr S7,World.cell?_setCell_same _ _ _ (h50.rely r9).2⟩ (by simp)) (by simp)
    have s1:bJ γ6 (((w9.setCell ⟨b8,0,none⟩ (.int .i64 x)).setCell ⟨b8,1,none⟩ (.int .i64 y)).setCell ⟨b8,2,none⟩ (.int .i64 s)) ⟨b8,1,none⟩ (.int .i64 y):=
     bJ.put ⟨.inr S7,World.cell?_setCell_same _ _ _ ((h51.rely r9).put (by simp)).2⟩ (by simp)
    have s2:bJ γ6 (((w9.setCell ⟨b8,0,none⟩ (.int .i64 x)).setCell ⟨b8,1,none⟩ (.int .i64 y)).setCell ⟨b8,2,none⟩ (.int .i64 s)) ⟨b8,2,none⟩ (.int .i64 s):=
     ⟨.inr S7,World.cell?_setCell_same _ _ _ (((h52.rely r9).put (by simp)).put (by simp)).2⟩
    generalize((w9.setCell ⟨b8,0,none⟩ (.int .i64 x)).setCell ⟨b8,1,none⟩ (.int .i64 y)).setCell ⟨b8,2,none⟩ (.int .i64 s)=w10 at*;have afF:=hS7.kept hk9;have VH:=Gq.kept hk9;clear hk9 OJ h50 h51 h52 hz5 r9 MX hS7 Gq S7;refine aU C ?_;co_then;refine cG C ?_;refine aq C ?_;try walk_nrm
    refine rC C hp (v:=?v6) rfl (by rfl) (λw₁ h₁=>⟨run_eq_of λK hK=>?r6,?e6⟩) ?h6
    case r6=>have hc0:=(bJ.rely s0 h₁).2;have Dq:=(bJ.rely s1 h₁).2;have Aw:=(bJ.rely s2 h₁).2;go_simp;exact hK
    case e6=>
     have hc0:=(bJ.rely s0 h₁).2;have Dq:=(bJ.rely s1 h₁).2;have Aw:=(bJ.rely s2 h₁).2;intro e he;simp[go_sem,hc0,Dq,Aw]at he;rcases he with rfl|rfl|rfl;.exact(bJ.rely s0 h₁).JQ
     .exact(bJ.rely s1 h₁).JQ
     exact(bJ.rely s2 h₁).JQ
    try walk_nrm
    refine Vz C hp (ob:=?ob7) (n:=1) rfl (by rfl) (λw=>run_eq_of λK hK=>?r7) (λw=>?e7) ?h7
    case r7=>go_simp;exact hK
    case e7=>simp[go_sem]
    intro Tf ahs;try walk_nrm
    have ac8:=(Kept.rely ahs).trans (Kept.alloc γ6 Tf Tf.heap.size (.cells #[.int .i64 x,.int .i64 y,.int .i64 s] 56));have ahO:∀(j:Nat)(u:Value),(sN (x,y,s))[j]? =some u->bJ (γ6.more Tf.heap.size) (Tf.alloc (.cells #[.int .i64 x,.int .i64 y,.int .i64 s] 56)) ((⟨Tf.heap.size,0,none⟩:Addr).add j) u:=by intro j u hu;rw[Addr.add_lit];simp only[jr];refine bJ.fresh (γ:=γ6) (w:=Tf) rfl ?_;simpa [sN]using hu
    have afE:=afF.kept ac8;have VG:=VH.kept ac8;have aeP:(γ6.more Tf.heap.size).all Tf.heap.size:=.inr (.inr rfl);generalize Tf.alloc (.cells #[.int .i64 x,.int .i64 y,.int .i64 s] 56)=w12 at*;generalize γ6.more Tf.heap.size=γ12 at*;generalize Tf.heap.size=b12 at*;clear afF VH s0 s1 s2 ac8;have Fv:=IV got;refine Hh C hp (B:=B0) (news:=sN (x,y,s)) (m:=1) (c:=1) (ad:=⟨b12,0,none⟩) (n:=got.length) (xs:=got.flatMap sN) (v:=out) rfl (by rfl) rfl Try.underlying33 Dp JU SU hz2 rfl (by decide) rfl rfl afE.size VG rfl ahO aeP (by simp[sN,Value.oneCell']) (by simp only[maxLen];omega) (by omega) ?_;intro v13 w13 γ13 hg1 hg2 hg3 hg4 hg5 aeJ;have aid:=afE.append hg1 hg2 hg3 hg4 hg5 (v:=out) (λb hb=>(VG.1.lt b hb).1);try walk_nrm
    refine aq C ?_;try walk_nrm
    refine aU C (JK (eR ?_));refine⟨Y8.length,by simp only[dw]at UO hn;omega,γ13,Y8,got++[(x,y,s)],v13,rfl,aid,?_,?_,rfl,qy rfl⟩;.rw[cD,List.flatMap_append];simpa using aeJ
    rw[iO];exact(List.Perm.append_left got hp2.symm).trans UM
   rw[if_neg hv];exact Iw
end Go.Co
