import Derived.Test.YtedcgbkilmlbhaaGreatPk35
set_option maxHeartbeats 2000000
set_option maxRecDepth 100000
namespace Go.Co
open Go Go.Conc Go.Proofs
variable {aa:Machine->Trace->Prop} {γ:So} {w:World}
theorem Qt{P:Program}{main:Bool}{K:Gm->Goroutine->World->Prop}{p:Pc}{a:Act}{ops:Array Oper}{i:Nat}{rest:cy}{o:Oper}(C:KC P main K C8 Ii)(hp:p≠.ret){v:Value}{b:Frame}{k:List Item}{cs:List Frame}(ho:ops[i]? =some o)(hw:Region.wanted o (yielded ops a.tmps)=true)(hk:b.kind≠.early)
  (hrun:∀w₁,jv γ w w₁->(execOp a.eval o).run P w₁=.ok (.value v) w₁/\∀e∈(execOp a.eval o).events P w₁ #[],Z7 γ.1 γ.2 e) (h:K (p,γ) (G (b.at (a.put o.dst v) (.inRegion ops rest::k)) cs) w):K (p,γ) (G (b.at a (.inRegion ops (i::rest)::k)) cs) w:=
 C.step _ _ _ _ λw₁ r=>⟨_,_,_,_,(p,γ),stepG_value ho hw hk (hrun w₁ (ZN hp r)).1,stg hp ⟨rfl,Ln λe he=>(hrun w₁ (ZN hp r)).2 e (mem_listed he)⟩,C.rely _ _ _ _ r h⟩
theorem Oh:(Tryz.prog.info? 79).map (λi=>(i.zero,i.size,i.bytes))=some (some (.agg #[.int .i64 0,.int .i64 0,.int .i64 0]),3,24):=by kernel_rfl
theorem MP(w:World)(x y s:Int):(Instr.build 79 #[(0,.int .i64 x),(1,.int .i64 y),(2,.int .i64 s)]).run Tryz.prog w=.ok (.agg #[.int .i64 x,.int .i64 y,.int .i64 s]) w:=
 run_build w 79 _ _ (by kernel_rfl)
theorem FC(w:World)(es:Array Event)(x y s:Int):(Instr.build 79 #[(0,.int .i64 x),(1,.int .i64 y),(2,.int .i64 s)]).events Tryz.prog w es=es:=by obtain⟨i0,hi,Kn,Ur,hz2⟩:=info_parts Oh;obtain⟨i3,hi3,hy0,hy1,hy2⟩:=info_parts VW;simp[Instr.build,run_underlying Tryz.underlying79,sizeOf,typeInfo,zeroValue,hi,Kn,hi3,hy1];split<;>simp
noncomputable def I6:Code:=Tryz.f102.body.getD .skip
noncomputable def X84:Code:=match I6 with|.seq x _=>x|_=>.skip
noncomputable def adL:Code:=match I6 with|.seq _ r=>r|_=>.skip
theorem Hs(a b:Wk)(x y:Int)(ys:br):msgs a b x (y::ys)=(gM a b x y).map (BV x y)++msgs a b x ys:=by simp[msgs]
def aj3(cf cl bl:Nat)(tv:Value)(γ':Gm)(e:Exit)(a':Act)(w':World):Prop:=e=.normal/\γ'.1=wk cf cl tv []/\bQ γ'.2 w' ⟨bl,0,none⟩ (.chan (some cl))/\a'.defers=[]/\a'.tmps.size=46/\a'.tmps[4]? =some (.pointer (some ⟨bl,0,none⟩))
theorem YX{bb ba bx bf bl:Nat}{vl:Value}{nl k:Nat}{y:Int}{v:Value}{m:Nat}{a:Act}(hd:a.defers=[])(hsz:a.tmps.size=46)(t0:a.tmps[0]? =some (.pointer (some ⟨bb,0,none⟩)))(t1:a.tmps[1]? =some (.pointer (some ⟨ba,0,none⟩)))(t2:a.tmps[2]? =some (.pointer (some ⟨bx,0,none⟩)))(t3:a.tmps[3]? =some (.pointer (some ⟨bf,0,none⟩)))(t4:a.tmps[4]? =some (.pointer (some ⟨bl,0,none⟩)))
  (t6:a.tmps[6]? =some (.int .i64 y)) (t11:a.tmps[11]? =some vl) (t12:a.tmps[12]? =some (.int .i64 nl)) (t13:a.tmps[13]? =some (.int .i64 k)) (t32:a.tmps[32]? =some v) (t33:a.tmps[33]? =some (.int .i64 m)) (t34:a.tmps[34]? =some (.int .i64 0)):∃u,a=V7 bb ba bx bf bl vl nl k y v m 0 u:=by
 obtain⟨T,df⟩:=a;simp only at hd hsz;subst hd;obtain⟨v0,v1,v2,v3,v4,v5,v6,v7,v8,v9,v10,v11,v12,v13,v14,v15,v16,v17,v18,v19,v20,v21,v22,v23,v24,v25,v26,v27,v28,v29,v30,v31,v32,v33,v34,v35,v36,v37,v38,v39,v40,v41,v42,v43,v44,v45,rfl⟩:=acF T hsz;simp at t0 t1 t2 t3 t4 t6 t11 t12 t13 t32 t33 t34;subst t0 t1 t2 t3 t4 t6 t11 t12 t13 t32 t33 t34;exact qE rfl
theorem MF(hP:Plain Tryz.prog){bb ba bx bf bl cf cl:Nat}{tv:Value}{da db:Wk}{x:Int}(xK:da.ok)(BR:db.ok)(Ko:0<=x)(hx3:x<4)
  (ha:gJ γ w ba da) (hb:gJ γ w bb db) (hx:bQ γ w ⟨bx,0,none⟩ (.int .i64 x)) (hf:bQ γ w ⟨bf,0,none⟩ (.chan (some cf))) (hl:bQ γ w ⟨bl,0,none⟩ (.chan (some cl))):
  KJ (KG Tryz.prog aa false) 102 (wk cf cl tv (msgs da db x db.bJ),γ) X84 (aj3 cf cl bl tv)
   ⟨#[.pointer (some ⟨bb,0,none⟩),.pointer (some ⟨ba,0,none⟩),.pointer (some ⟨bx,0,none⟩),.pointer (some ⟨bf,0,none⟩),.pointer (some ⟨bl,0,none⟩),undef,undef,undef,undef,undef,undef,undef,undef,undef,undef,undef,undef,undef,undef,undef,undef,undef,undef,undef,undef,undef,undef,undef,undef,undef,undef,undef,undef,undef,undef,undef,undef,undef,undef,undef,undef,undef,undef,undef,undef,undef],[]⟩ w:=by
 have C:=B1 (aa:=aa) (main:=false) hP;have hp:∀vs,wk cf cl tv vs≠.ret:=λvs=>(Pw vs).1;obtain⟨vl,hvl,A,cap,rfl,hA⟩:=hb.bJ;have agV:=BR.few;refine bp C (cF C ?_);iterate 2 (refine av C ?_;try walk_nrm)
 refine jD C (hp _) hvl ?_;iterate 2 (try walk_nrm;refine av C ?_)
 try walk_nrm
 refine aW C ?_;co_then;refine gT C ?_;refine qp C (λn γ' a w'=>∃γ3 k,γ'=(wk cf cl tv (msgs da db x (db.bJ.drop k)),γ3)/\Kept γ w γ3 w'/\k<=db.bJ.length/\n=db.bJ.length-k/\∃u,a=ady bb ba bx bf bl (.slice A db.bJ.length cap) db.bJ.length k u) (n:=db.bJ.length) ⟨γ,0,rfl,Kept.refl _ _,ab,ab,qE rfl⟩ ?_;rintro n γ' a w' ⟨γ3,k,hγ,Dx,hk,hn,u,Ie⟩;subst hγ;unfold ady at Ie;subst Ie;refine bp C (cF C ?_);by_cases hlt:k<db.bJ.length
 .have Z0:decide ((k:Int)<(db.bJ.length:Int))=true:=by simpa using hlt
  obtain⟨y,hy⟩:∃y,db.bJ[k]? =some y:=⟨_,cq hlt⟩;obtain⟨ad,hAe,hsA⟩:=hA k y hy;subst hAe;have hyb:=BR.bJ k y hy;have V2:db.bJ.drop k=y::db.bJ.drop (k+1):=by rw[nU hlt];congr 1;exact cT ((cq hlt).symm.trans hy)
  have hs3:=Dx.sees hsA;have hw5:IntKind.i64.wrap ((k:Int)+1)=(k:Int)+1:=by rw[xO]<;>omega
  refine av C ?_;try walk_nrm
  refine aW C ?_;co_then;refine bp C (ep C (t:=true) rfl ?_);simp only[if_true];refine lu C ?_;co_then;refine bp C (gT C (bp C (cF C ?_)));refine av C ?_;try walk_nrm
  refine jD C (hp _) hs3 ?_;try walk_nrm
  refine av C ?_;try walk_nrm
  refine aW C ?_;co_then;rw[V2,Hs];clear hs3 hA;refine bp C (abv C (hp _) (ha.kept Dx) (hb.kept Dx) (Dx.sees hx) Ko hx3 hyb.1 ab xK BR rfl rfl rfl rfl rfl rfl ?_);intro v γ4 a4 w4 ZZ agI hold h32 h33 h34 gC Zs;co_then;obtain⟨A2,uK,rfl,hA2⟩:=gC.H8;obtain⟨u4,ha4⟩:=YX (bb:=bb) (ba:=ba) (bx:=bx) (bf:=bf) (bl:=bl) (vl:=.slice (some ad) db.bJ.length cap) (nl:=db.bJ.length) (k:=k) ZZ agI (hold 0 ab) (hold 1 ab) (hold 2 ab) (hold 3 ab) (hold 4 ab) (hold 6 ab) (hold 11 ab) (hold 12 ab) (hold 13 ab) h32 h33 h34;clear hold h32 h33 h34 ZZ agI gC;have aju:=Dx.trans Zs;generalize hl0:gM da db x y=l at*;refine gT C ?_;refine qp C (λn γ' a w'=>∃γ5 j,γ'=(wk cf cl tv ((l.drop j).map (BV x y)++msgs da db x (db.bJ.drop (k+1))),γ5)/\Kept γ4 w4 γ5 w'/\j<=l.length/\n=l.length-j/\∃u,a=V7 bb ba bx bf bl (.slice (some ad) db.bJ.length cap) db.bJ.length k y (.slice A2 l.length uK) l.length j u) (n:=l.length) ⟨γ4,0,rfl,Kept.refl _ _,ab,ab,u4,ha4⟩ ?_;clear ha4 Dx;rintro n2 γ' a w6 ⟨γ5,j,hγ,Pq,hj,hn2,u,ha5⟩;subst hγ;unfold V7 at ha5;subst ha5;have hk6:=aju.trans Pq;refine bp C (cF C ?_);by_cases aas:j<l.length
  .have hd2:decide ((j:Int)<(l.length:Int))=true:=by simpa using aas
   obtain⟨s,hs⟩:∃s,l[j]? =some s:=⟨_,cq aas⟩;obtain⟨ad2,ajS,ajh⟩:=hA2 j s hs;subst ajS;have af5:l.drop j=s::l.drop (j+1):=by rw[nU aas];congr 1;exact cT ((cq aas).symm.trans hs)
   have hs5:=Pq.sees ajh;have hf5:=hk6.sees hf;have hx5:=hk6.sees hx;have hw6:IntKind.i64.wrap ((j:Int)+1)=(j:Int)+1:=by
    have h1:=(BR.up y.toNat).1;have h2:=(xK.lo x.toNat).1;have h3:l.length<=2001:=by rw[<-hl0];exact bt (Jk _ _ _ _) ab
    rw[xO]<;>omega
   refine av C ?_;try walk_nrm
   refine aW C ?_;co_then;refine bp C (ep C (t:=true) rfl ?_);simp only[if_true];refine lu C ?_;co_then;refine bp C (gT C (bp C (cF C ?_)));refine av C ?_;try walk_nrm
   refine jD C (hp _) hs5 ?_;try walk_nrm
   refine av C ?_;try walk_nrm
   refine aW C ?_;co_then;refine cF C ?_;refine jD C (hp _) hf5 ?_;try walk_nrm
   refine jD C (hp _) hx5 ?_;iterate 2 (try walk_nrm;refine av C ?_)
   try walk_nrm
   have hbr:=λw=>MP w x y s;have FH:=λw=>FC w #[] x y s;refine eF C (v:=?v18) rfl (by rfl) (λw=>run_eq_of λK hK=>?r18) (λw=>?e18) ?h18
   case r18=>go_simp;exact hK
   case e18=>simp[go_sem,FH]
   try walk_nrm
   clear hbr FH;rw[af5];show KO _ _ (Pc.send cf (BV x y s) (wk cf cl tv ((l.drop (j+1)).map (BV x y)++msgs da db x (db.bJ.drop (k+1)))),γ5) _ _ _ _ _;refine abZ rfl (by rfl) rfl rfl rfl (Pw _).2 (hp _) (λw7 r7=>?_);have Zr:=Pq.trans (Kept.rely r7);clear hs5 hf5 hx5 hk6 Pq;try walk_nrm
   refine aW C ?_;co_then;refine cF C ?_;iterate 2 (refine av C ?_;try walk_nrm)
   refine aW C (eY ?_);exact⟨l.length-(j+1),ab,γ5,j+1,rfl,Zr,ab,rfl,qE rfl⟩
  have hje:j=l.length:=ab
  subst hje;have hd2:decide ((l.length:Int)<(l.length:Int))=false:=ae
  simp only[List.drop_length,eO,jq];refine av C ?_;try walk_nrm
  refine aW C ?_;co_then;refine bp C (ep C (t:=false) rfl ?_);simp only[aK,if_false];refine o7 C ?_;co_then;refine cF C ?_;iterate 2 (refine av C ?_;try walk_nrm)
  refine aW C (eY ?_);exact⟨db.bJ.length-(k+1),ab,γ5,k+1,rfl,hk6,ab,rfl,qE rfl⟩
 have Pp:k=db.bJ.length:=ab
 subst Pp;have Z0:decide ((db.bJ.length:Int)<(db.bJ.length:Int))=false:=ae
 simp only[List.drop_length];refine av C ?_;try walk_nrm
 refine aW C ?_;co_then;refine bp C (ep C (t:=false) rfl ?_);simp only[aK,if_false];refine o7 C ?_;co_then;exact⟨rfl,rfl,Dx.sees hl,rfl,rfl,rfl⟩
noncomputable def bot:Frame:={(default:Frame)with fn:=Tryz.prog.funcs.size,defers:=[],mode:=.panicking [goexitEntry]}
def ZB:Frame:={(default:Frame)with fn:=102,kind:=.deferred}
def call84(bb ba bx bf bl:Nat):Deferred:={target:=.fn (.func 102) #[.pointer (some ⟨bb,0,none⟩),.pointer (some ⟨ba,0,none⟩),.pointer (some ⟨bx,0,none⟩),.pointer (some ⟨bf,0,none⟩),.pointer (some ⟨bl,0,none⟩)],args:=#[]}
theorem abA(a:Act)(hd:a.defers=[])(ops:Array Oper):QuitsIn Tryz.prog 4 (G (ZB.at a [.inRegion ops []]) [bot]):=by obtain⟨T,df⟩:=a;simp only at hd;subst hd;refine .inr ⟨rfl,_,λw=>stepG_region_end,?_⟩;refine .inr ⟨rfl,_,λw=>stepG_end,?_⟩;refine .inr ⟨rfl,G bot [],λw=>?_,?_⟩;simp[G,stepG,unwind,doReturn,results,Frame.at,ZB,bot,Tryz.func102,Tryz.f102,seen,GStep.after,goexitEntry];refine .inr ⟨rfl,{G bot []with status:=.finished},λw=>?_,rfl⟩;simp[G,stepG,unwind,bot,goexitEntry,Frame.catches];rfl
theorem agl(bb ba bx bf bl:Nat)(w:World):stepG Tryz.prog false (born Tryz.prog (call84 bb ba bx bf bl)) w=
  .go (G (ZB.at ⟨#[.pointer (some ⟨bb,0,none⟩),.pointer (some ⟨ba,0,none⟩),.pointer (some ⟨bx,0,none⟩),.pointer (some ⟨bf,0,none⟩),.pointer (some ⟨bl,0,none⟩),undef,undef,undef,undef,undef,undef,undef,undef,undef,undef,undef,undef,undef,undef,undef,undef,undef,undef,undef,undef,undef,undef,undef,undef,undef,undef,undef,undef,undef,undef,undef,undef,undef,undef,undef,undef,undef,undef,undef,undef,undef],[]⟩ [.code I6]) [bot]) w #[]:=by
 simp[born,call84,stepG,unwind,callDeferred,invoke,callFunc,Tryz.func102,Tryz.f102,seen,GStep.after,G,Frame.enter,Frame.at,ZB,bot,I6]
theorem Ss(hP:Plain Tryz.prog){bb ba bx bf bl cf cl:Nat}{da db:Wk}{x:Int}(xK:da.ok)(BR:db.ok)(Ko:0<=x)(hx3:x<4)
  (ha:gJ γ w ba da) (hb:gJ γ w bb db) (hx:bQ γ w ⟨bx,0,none⟩ (.int .i64 x)) (hf:bQ γ w ⟨bf,0,none⟩ (.chan (some cf))) (hl:bQ γ w ⟨bl,0,none⟩ (.chan (some cl))):
  Pr Tryz.prog aa false (wk cf cl (.bool true) (msgs da db x db.bJ)) γ (born Tryz.prog (call84 bb ba bx bf bl)) w:=by
 have C:=B1 (aa:=aa) (main:=false) hP;have hne:=Pw (cf:=cf) (cl:=cl) (tv:=.bool true) (msgs da db x db.bJ)
 suffices h:KG Tryz.prog aa false (wk cf cl (.bool true) (msgs da db x db.bJ),γ) (born Tryz.prog (call84 bb ba bx bf bl)) w from h (λ_=>hne.1) hne.2
 refine C.go (fr:=(born Tryz.prog (call84 bb ba bx bf bl)).frame) (cs:=[]) (λw=>agl bb ba bx bf bl w) ?_;show KG Tryz.prog aa false _ (G (ZB.at _ (.code (.seq X84 adL)::[])) [bot]) w;refine C.go (λw=>stepG_seq) ?_;refine MF hP xK BR Ko hx3 ha hb hx hf hl ZB [.code adL] [bot] rfl (by simp[ZB]) ?_;rintro⟨p',γ'⟩ e a' w' ⟨rfl,uh,kP,yH,hsz',ht4⟩;simp only at uh kP;subst uh;show KG Tryz.prog aa false _ (G (ZB.at a' (.code (.region _ _ false)::[])) [bot]) w';refine C.go (λw=>stepG_region) ?_;refine Qt C (Pw _).1 (v:=.chan (some cl)) rfl (by rfl) (by simp[ZB]) (λw₁ h₁=>⟨run_eq_of λK hK=>?_,?_⟩) ?_;have hc:=(kP.rely h₁).2;clear hsz'
 go_simp
 exact hK;have hc:=(kP.rely h₁).2;intro e he;simp[go_sem,hc,ht4]at he;subst he;exact(kP.rely h₁).Kj;refine J9 rfl (by rfl) rfl ?_ rfl (by simp[ZB]) ⟨4,QuitsD.of_quitsIn (abA _ (by exact yH) _)⟩;simp[Act.eval,Act.put,hsz']
end Go.Co
namespace Go.Co
open Go Go.Conc Go.Proofs
variable {aa:Machine->Trace->Prop} {γ:So} {w:World}
theorem I4{cf cl:Nat}{z2:Value}{rR:Bool}(k:Nat):Kk cf cl z2 rR k≠.ret/\Kk cf cl z2 rR k≠.stop:=by cases k<;>simp[Kk]
theorem IY{P:Program}{main:Bool}{fn:FuncId}{ops:Array Oper}{todo:cy}{Q:Gm->Exit->Act->World->Prop}{a:Act}:KO (KG P aa main) fn (.bad,γ) ops todo Q a w:=λ_ _ _ _ _ _ _ _=>trivial
theorem ac9:(Tryz.prog.info? 4).map (λi=>(i.zero,i.size,i.bytes))=some (some (.bool false),1,1):=by kernel_rfl
theorem ai7(f:FuncId):(Tryz.prog.funcs[f]?).any (·.norace)=false:=by
 have h:Tryz.prog.funcs.all (λf=>!f.norace)=true:=by kernel_rfl
 cases hf:Tryz.prog.funcs[f]? with
 |none=>rfl
 |some fn=>grind
noncomputable def I5:Code:=Tryz.f104.body.getD .skip
noncomputable def X85:Code:=match I5 with|.seq x _=>x|_=>.skip
noncomputable def adK:Code:=match I5 with|.seq _ r=>r|_=>.skip
def ag7(ba bl bf:Nat)(vl:Value)(nl k:Nat)(u:Nat->Value):Act:=
 ⟨#[.pointer (some ⟨ba,0,none⟩),.pointer (some ⟨bl,0,none⟩),.pointer (some ⟨bf,0,none⟩),u 3,u 4,vl,.int .i64 nl,.int .i64 k,u 8,u 9,u 10,u 11,u 12],[]⟩
def Vt(cf cl bf:Nat)(z2:Value)(γ':Gm)(e:Exit)(a':Act)(w':World):Prop:=e=.normal/\γ'.1=Kk cf cl z2 false 0/\bQ γ'.2 w' ⟨bf,0,none⟩ (.chan (some cf))/\a'.defers=[]/\a'.tmps.size=13/\a'.tmps[2]? =some (.pointer (some ⟨bf,0,none⟩))
theorem M5(hP:Plain Tryz.prog){ba bl bf cf cl:Nat}{da:Wk}(xK:da.ok)
  (ha:gJ γ w ba da) (hf:bQ γ w ⟨bf,0,none⟩ (.chan (some cf))) (hl:bQ γ w ⟨bl,0,none⟩ (.chan (some cl))):
  KJ (KG Tryz.prog aa false) 104 (Kk cf cl (.bool false) false da.bJ.length,γ) X85 (Vt cf cl bf (.bool false))
   ⟨#[.pointer (some ⟨ba,0,none⟩),.pointer (some ⟨bl,0,none⟩),.pointer (some ⟨bf,0,none⟩),undef,undef,undef,undef,undef,undef,undef,undef,undef,undef],[]⟩ w:=by
 have C:=B1 (aa:=aa) (main:=false) hP;have hp:∀k,Kk cf cl (.bool false) false k≠.ret:=λk=>(I4 k).1;obtain⟨vl,hvl,A,cap,rfl,-⟩:=ha.bJ;have agV:=xK.few;obtain⟨i4,hi4,hy0,hy1,hy2⟩:=info_parts ac9;refine bp C (cF C ?_);iterate 2 (refine av C ?_;try walk_nrm)
 refine jD C (hp _) hvl ?_;iterate 2 (try walk_nrm;refine av C ?_)
 try walk_nrm
 refine aW C ?_;co_then;refine gT C ?_;refine qp C (λn γ' a w'=>∃γ3 k,γ'=(Kk cf cl (.bool false) false (da.bJ.length-k),γ3)/\Kept γ w γ3 w'/\k<=da.bJ.length/\n=da.bJ.length-k/\∃u,a=ag7 ba bl bf (.slice A da.bJ.length cap) da.bJ.length k u) (n:=da.bJ.length) ⟨γ,0,rfl,Kept.refl _ _,ab,ab,qE rfl⟩ ?_;rintro n γ' a w' ⟨γ3,k,hγ,Dx,hk,hn,u,Ie⟩;subst hγ;unfold ag7 at Ie;subst Ie;refine bp C (cF C ?_);by_cases hlt:k<da.bJ.length
 .have Z0:decide ((k:Int)<(da.bJ.length:Int))=true:=by simpa using hlt
  have hl3:=Dx.sees hl;have hw5:IntKind.i64.wrap ((k:Int)+1)=(k:Int)+1:=by rw[xO]<;>omega
  refine av C ?_;try walk_nrm
  refine aW C ?_;co_then;refine bp C (ep C (t:=true) rfl ?_);simp only[if_true];refine lu C ?_;co_then;refine bp C (gT C (cF C ?_));refine jD C (hp _) hl3 ?_;try walk_nrm
  have hm:da.bJ.length-k=(da.bJ.length-(k+1))+1:=ab
  rw[hm];show KO _ _ (Pc.recv cl false (.bool false) (λx=>match x with|some _=>Kk cf cl (.bool false) false (da.bJ.length-(k+1))|none=>.bad),γ3) _ _ _ _ _;refine JE rfl (by rfl) (λw=>?_) (λw=>?_) (λx=>?_) (λ_ x=>?_) (λx w7 r7=>?_);simp[execOp,Act.eval,run_underlying Tryz.underlying137,zeroValue,typeInfo,hi4,hy0,rcase];simp[execOp,Act.eval,run_underlying Tryz.underlying137,zeroValue,typeInfo,hi4,hy0];cases x with
  |none=>simp
  |some v=>exact(I4 _).2
  grind
  cases x with
  |none=>exact IY
  |some v=>
   have Zr:=Dx.trans (Kept.rely r7);clear hl3 Dx;simp only[];try walk_nrm
   refine aW C ?_;co_then;refine cF C ?_;iterate 2 (refine av C ?_;try walk_nrm)
   refine aW C (eY ?_);exact⟨da.bJ.length-(k+1),ab,γ3,k+1,rfl,Zr,ab,rfl,qE rfl⟩
 have Pp:k=da.bJ.length:=ab
 subst Pp;have Z0:decide ((da.bJ.length:Int)<(da.bJ.length:Int))=false:=ae
 simp only[Nat.sub_self];refine av C ?_;try walk_nrm
 refine aW C ?_;co_then;refine bp C (ep C (t:=false) rfl ?_);simp only[aK,if_false];refine o7 C ?_;co_then;exact⟨rfl,rfl,Dx.sees hf,rfl,rfl,rfl⟩
def ZA:Frame:={(default:Frame)with fn:=104,kind:=.deferred}
def call85(ba bl bf:Nat):Deferred:={target:=.fn (.func 104) #[.pointer (some ⟨ba,0,none⟩),.pointer (some ⟨bl,0,none⟩),.pointer (some ⟨bf,0,none⟩)],args:=#[]}
theorem abz(a:Act)(hd:a.defers=[])(ops:Array Oper):QuitsIn Tryz.prog 4 (G (ZA.at a [.inRegion ops []]) [bot]):=by obtain⟨T,df⟩:=a;simp only at hd;subst hd;refine .inr ⟨rfl,_,λw=>stepG_region_end,?_⟩;refine .inr ⟨rfl,_,λw=>stepG_end,?_⟩;refine .inr ⟨rfl,G bot [],λw=>?_,?_⟩;simp[G,stepG,unwind,doReturn,results,Frame.at,ZA,bot,Tryz.func104,Tryz.f104,seen,GStep.after,goexitEntry];refine .inr ⟨rfl,{G bot []with status:=.finished},λw=>?_,rfl⟩;simp[G,stepG,unwind,bot,goexitEntry,Frame.catches];rfl
theorem agk(ba bl bf:Nat)(w:World):stepG Tryz.prog false (born Tryz.prog (call85 ba bl bf)) w=
  .go (G (ZA.at ⟨#[.pointer (some ⟨ba,0,none⟩),.pointer (some ⟨bl,0,none⟩),.pointer (some ⟨bf,0,none⟩),undef,undef,undef,undef,undef,undef,undef,undef,undef,undef],[]⟩ [.code I5]) [bot]) w #[]:=by
 simp[born,call85,stepG,unwind,callDeferred,invoke,callFunc,Tryz.func104,Tryz.f104,seen,GStep.after,G,Frame.enter,Frame.at,ZA,bot,I5]
theorem Uh(hP:Plain Tryz.prog){ba bl bf cf cl:Nat}{da:Wk}(xK:da.ok)
  (ha:gJ γ w ba da) (hf:bQ γ w ⟨bf,0,none⟩ (.chan (some cf))) (hl:bQ γ w ⟨bl,0,none⟩ (.chan (some cl))):
  Pr Tryz.prog aa false (Kk cf cl (.bool false) false da.bJ.length) γ (born Tryz.prog (call85 ba bl bf)) w:=by
 have C:=B1 (aa:=aa) (main:=false) hP;have hne:=I4 (cf:=cf) (cl:=cl) (z2:=.bool false) (rR:=false) da.bJ.length
 suffices h:KG Tryz.prog aa false (Kk cf cl (.bool false) false da.bJ.length,γ) (born Tryz.prog (call85 ba bl bf)) w from h (λ_=>hne.1) hne.2
 refine C.go (fr:=(born Tryz.prog (call85 ba bl bf)).frame) (cs:=[]) (λw=>agk ba bl bf w) ?_;show KG Tryz.prog aa false _ (G (ZA.at _ (.code (.seq X85 adK)::[])) [bot]) w;refine C.go (λw=>stepG_seq) ?_;refine M5 hP xK ha hf hl ZA [.code adK] [bot] rfl (by simp[ZA]) ?_;rintro⟨p',γ'⟩ e a' w' ⟨rfl,uh,Zu,yH,hsz',ht2⟩;simp only at uh Zu;subst uh;show KG Tryz.prog aa false _ (G (ZA.at a' (.code (.region _ _ false)::[])) [bot]) w';refine C.go (λw=>stepG_region) ?_;refine Qt C (I4 _).1 (v:=.chan (some cf)) rfl (by rfl) (by simp[ZA]) (λw₁ h₁=>⟨run_eq_of λK hK=>?_,?_⟩) ?_;have hc:=(Zu.rely h₁).2;clear hsz'
 go_simp
 exact hK;have hc:=(Zu.rely h₁).2;intro e he;simp[go_sem,hc,ht2]at he;subst he;exact(Zu.rely h₁).Kj;refine F9 ai7 rfl (by rfl) rfl ?_ (by simp[ZA]) ⟨4,QuitsD.of_quitsIn (abz _ (by exact yH) _)⟩;simp[Act.eval,Act.put,hsz']
end Go.Co
namespace Go.Co
open Go Go.Conc Go.Proofs
open Classical
variable {P:Program} {aa:Machine->Trace->Prop} {γ:So} {w:World}
theorem MD{b:Nat}:γ.give.all b↔γ.all b:=⟨λh=>h.elim id λh=>h.elim,.inl⟩
theorem bQ.give {ad:Addr}{v:Value}(h:bQ γ w ad v):bQ γ.give w ad v:=⟨MD.2 h.1,h.2⟩
theorem AG.give {v:Value}{l:br}(h:AG γ w v l):AG γ.give w v l:=by obtain⟨A,cap,rfl,h⟩:=h;exact⟨A,cap,rfl,λi x hx=>by obtain⟨ad,h1,h2⟩:=h i x hx;exact⟨ad,h1,h2.give⟩⟩
theorem gJ.give {b:Nat}{d:Wk}(h:gJ γ w b d):gJ γ.give w b d:=
 ⟨h.cS.give,h.bJ.imp λ_ ⟨h1,h2⟩=>⟨h1.give,h2.give⟩,λi hi=>(h.up i hi).imp λ_ ⟨h1,h2⟩=>⟨h1.give,h2.give⟩,λi hi=>(h.lo i hi).imp λ_ ⟨h1,h2⟩=>⟨h1.give,h2.give⟩⟩
theorem Kept.put {γ0:So}{w0:World}{ad:Addr}{v:Value}(k:Kept γ0 w0 γ w)(h:w0.heap.size<=ad.block):Kept γ0 w0 γ (w.setCell ad v):=
 ⟨k.shr,k.own,λb hb hlt=>(heap_setCell_other _ _ _ _ ab).trans (k.blk b hb hlt),by rw[World.size_setCell];exact k.size,k.env⟩
structure Kw (A:Nat->Prop) (B0:Nat) (w0:World) (γ:So) (w:World):Prop where
 lt:∀b,A b->b<B0
 all:∀b,A b->γ.all b
 blk:∀b,A b->w.heap[b]? =w0.heap[b]?
 size:B0<=w.heap.size
 env:w.os=w0.os/\w.output=w0.output
theorem Kw.kept {A:Nat->Prop}{B0:Nat}{w0 w':World}{γ':So}(h:Kw A B0 w0 γ w)(k:Kept γ w γ' w'):Kw A B0 w0 γ' w':=
 ⟨h.lt,λb hb=>k.all (h.all b hb),λb hb=>(k.blk b (h.all b hb) (dD (h.lt b hb) h.size)).trans (h.blk b hb),bt h.size k.size,k.env.1.trans h.env.1,k.env.2.trans h.env.2⟩
theorem Kw.give {A:Nat->Prop}{B0:Nat}{w0:World}(h:Kw A B0 w0 γ w):Kw A B0 w0 γ.give w:=⟨h.lt,λb hb=>MD.2 (h.all b hb),h.blk,h.size,h.env⟩
structure Fx (da db:Wk) (b2 b3 b5 b6 cf cl:Nat) (γ:So) (w:World):Prop where
 wa:gJ γ w b2 da
 wb:gJ γ w b3 db
 f:bQ γ w ⟨b5,0,none⟩ (.chan (some cf))
 l:bQ γ w ⟨b6,0,none⟩ (.chan (some cl))
theorem Fx.kept {da db:Wk}{b2 b3 b5 b6 cf cl:Nat}{γ':So}{w':World}(h:Fx da db b2 b3 b5 b6 cf cl γ w)(k:Kept γ w γ' w'):Fx da db b2 b3 b5 b6 cf cl γ' w':=⟨h.wa.kept k,h.wb.kept k,k.sees h.f,k.sees h.l⟩
theorem Fx.give {da db:Wk}{b2 b3 b5 b6 cf cl:Nat}(h:Fx da db b2 b3 b5 b6 cf cl γ w):Fx da db b2 b3 b5 b6 cf cl γ.give w:=⟨h.wa.give,h.wb.give,h.f.give,h.l.give⟩
def PO(b2 b3 b5 b6:Nat)(u:Nat->Value):Act:=
 ⟨#[u 0,u 1,.pointer (some ⟨b2,0,none⟩),.pointer (some ⟨b3,0,none⟩),u 4,.pointer (some ⟨b5,0,none⟩),.pointer (some ⟨b6,0,none⟩),u 7,u 8,u 9,u 10,u 11,u 12,u 13,u 14,u 15,u 16,u 17,u 18,u 19,u 20,u 21,u 22,u 23,u 24,u 25,u 26,u 27,u 28,u 29,u 30,u 31,u 32,u 33,u 34],[]⟩
def KZ(b2 b3 b5 b6:Nat)(vl:Value)(nl k:Nat)(u:Nat->Value):Act:=
 ⟨#[u 0,u 1,.pointer (some ⟨b2,0,none⟩),.pointer (some ⟨b3,0,none⟩),u 4,.pointer (some ⟨b5,0,none⟩),.pointer (some ⟨b6,0,none⟩),u 7,u 8,u 9,u 10,u 11,u 12,u 13,u 14,vl,.int .i64 nl,.int .i64 k,u 18,u 19,u 20,u 21,u 22,u 23,u 24,u 25,u 26,u 27,u 28,u 29,u 30,u 31,u 32,u 33,u 34],[]⟩
def akj(b2 b3 b5 b6 cf:Nat)(out:Value)(u:Nat->Value):Act:=
 ⟨#[u 0,u 1,.pointer (some ⟨b2,0,none⟩),.pointer (some ⟨b3,0,none⟩),u 4,.pointer (some ⟨b5,0,none⟩),.pointer (some ⟨b6,0,none⟩),u 7,u 8,out,u 10,u 11,u 12,u 13,u 14,u 15,u 16,u 17,u 18,u 19,u 20,u 21,u 22,u 23,.chan (some cf),u 25,u 26,u 27,u 28,u 29,u 30,u 31,u 32,u 33,u 34],[]⟩
noncomputable def agn:Code:=Tryz.f60.body.getD .skip
noncomputable def tg:Code:=match agn with|.seq _ (.seq _ (.seq _ x))=>x|_=>.skip
noncomputable def ahc:Code:=match tg with|.seq x _=>x|_=>.skip
theorem Mt{cf cl:Nat}{tv z2:Value}{rR:Bool}{K:Nat}{p:Pc}(todo:List (List Value)):chain cf cl tv z2 rR K p todo≠.ret/\chain cf cl tv z2 rR K p todo≠.stop:=by cases todo<;>simp[chain]
def aj4(da db:Wk)(b2 b3 b5 b6 cf cl:Nat)(K:Nat)(p:Pc)(A:Nat->Prop)(B0:Nat)(w0:World)(γ':Gm)(e:Exit)(a':Act)(w':World):Prop:=
 e=.normal/\γ'.1=chain cf cl (.bool true) (.bool false) false K p []/\Kw A B0 w0 γ'.2 w'/\Fx da db b2 b3 b5 b6 cf cl γ'.2 w'/\(∀b,A b->γ'.2.1 b\/γ'.2.2 b)/\∃vl nl k u,a'=KZ b2 b3 b5 b6 vl nl k u
theorem afu(hP:Plain Tryz.prog){b2 b3 b5 b6 cf cl:Nat}{da db:Wk}(xK:da.ok)(BR:db.ok){K:Nat}{p:Pc}{A:Nat->Prop}{B0:Nat}{w0:World}(hS:Kw A B0 w0 γ w)(hF:Fx da db b2 b3 b5 b6 cf cl γ w)(u:Nat->Value):
  KJ (KG Tryz.prog aa true) 60 (chain cf cl (.bool true) (.bool false) false K p (da.bJ.map λx=>msgs da db x db.bJ),γ) ahc (aj4 da db b2 b3 b5 b6 cf cl K p A B0 w0) (PO b2 b3 b5 b6 u) w:=by
 have C:=B1 (aa:=aa) (main:=true) hP;have hp:∀todo,chain cf cl (.bool true) (.bool false) false K p todo≠.ret:=λtodo=>(Mt todo).1;obtain⟨v0,ZT,AA,cap,rfl,hA⟩:=hF.wa.bJ;have hI:AG γ w (.slice AA da.bJ.length cap) da.bJ:=⟨AA,cap,rfl,hA⟩;have agV:=xK.few;unfold PO;refine bp C (cF C ?_);iterate 2 (refine av C ?_;try walk_nrm)
 refine jD C (hp _) ZT ?_;iterate 2 (try walk_nrm;refine av C ?_)
 try walk_nrm
 refine aW C ?_;co_then;refine gT C ?_;clear ZT hA;refine qp C (λn γ' a w'=>∃γ3 k,γ'=(chain cf cl (.bool true) (.bool false) false K p ((da.bJ.drop k).map λx=>msgs da db x db.bJ),γ3)/\Kw A B0 w0 γ3 w'/\Fx da db b2 b3 b5 b6 cf cl γ3 w'/\AG γ3 w' (.slice AA da.bJ.length cap) da.bJ/\k<=da.bJ.length/\n=da.bJ.length-k/\∃u,a=KZ b2 b3 b5 b6 (.slice AA da.bJ.length cap) da.bJ.length k u) (n:=da.bJ.length) ⟨γ,0,rfl,hS,hF,hI,ab,ab,qE rfl⟩ ?_;clear hS hF hI;rintro n γ' a w' ⟨γ3,k,hγ,hS,hF,hI,hk,hn,u,Ie⟩;subst hγ;unfold KZ at Ie;subst Ie;refine bp C (cF C ?_);by_cases hlt:k<da.bJ.length
 .have Z0:decide ((k:Int)<(da.bJ.length:Int))=true:=by simpa using hlt
  obtain⟨x,hx⟩:∃x,da.bJ[k]? =some x:=⟨_,cq hlt⟩;have hxb:=xK.bJ k x hx;obtain⟨ad,rfl,hsA⟩:∃ad,AA=some ad/\bQ γ3 w' (ad.add k) (.int .i64 x):=by obtain⟨A2,uK,he,h2⟩:=hI;cases he;exact h2 k x hx
  have V2:da.bJ.drop k=x::da.bJ.drop (k+1):=by rw[nU hlt];congr 1;exact cT ((cq hlt).symm.trans hx)
  have hw5:IntKind.i64.wrap ((k:Int)+1)=(k:Int)+1:=by rw[xO]<;>omega
  refine av C ?_;try walk_nrm
  refine aW C ?_;co_then;refine bp C (ep C (t:=true) rfl ?_);simp only[if_true];refine lu C ?_;co_then;refine bp C (gT C (bp C (cF C ?_)));refine av C ?_;try walk_nrm
  refine jD C (hp _) hsA ?_;try walk_nrm
  refine rK C (hp _) (ob:=?ob9) rfl (by rfl) (λw=>run_eq_of λK hK=>?r9) (λw=>?e9) ?h9
  case r9=>go_simp;exact hK
  case e9=>simp[go_sem]
  intro w5 ZM;try walk_nrm
  have Pq:=(Kept.rely ZM).trans (Kept.alloc γ3 w5 w5.heap.size (.cells #[.int .i64 0] 3));have hz5:(w5.alloc (.cells #[.int .i64 0] 3)).frozen? ⟨w5.heap.size,0,none⟩=false:=World.frozen?_alloc_new _ _ _ _;have hs5:bQ _ _ ⟨w5.heap.size,0,none⟩ (.int .i64 0):=bQ.fresh (γ:=γ3) (w:=w5) (cs:=#[.int .i64 0]) (t:=3) rfl rfl;have UB:(γ3.more w5.heap.size).2 w5.heap.size:=.inr rfl;have NL:w'.heap.size<=w5.heap.size:=ZM.1;generalize w5.alloc (.cells #[.int .i64 0] 3)=w6 at*;generalize γ3.more w5.heap.size=γ6 at*;generalize w5.heap.size=b8 at*;clear hsA ZM;refine Oe C (hp _) (ad:=⟨b8,0,none⟩) (v:=.int .i64 x) rfl (by rfl) UB (λw₁ h₁=>⟨?_,?_⟩) ?_;have hc:=(hs5.rely h₁).2;have hz:w₁.frozen? ⟨b8,0,none⟩=false:=(World.frozen?_of_block (h₁.2.1 b8 (.inr UB))).trans hz5;refine(?_:∀K:Result Next->Prop,K (.ok .skip (w₁.setCell ⟨b8,0,none⟩ (.int .i64 x)))->K _) (·=_) rfl;intro K hK
  go_simp
  try(unfold stored;go_simp)
  exact hK;have hc:=(hs5.rely h₁).2;have hz:w₁.frozen? ⟨b8,0,none⟩=false:=(World.frozen?_of_block (h₁.2.1 b8 (.inr UB))).trans hz5;intro e he;simp[go_sem,hc,hz]at he;exact he;intro w7 r7;try walk_nrm
  have Zr:=(Pq.trans (Kept.rely r7)).put (ad:=⟨b8,0,none⟩) (v:=.int .i64 x) NL;have hx7:bQ γ6 (w7.setCell ⟨b8,0,none⟩ (.int .i64 x)) ⟨b8,0,none⟩ (.int .i64 x):=⟨.inr UB,World.cell?_setCell_same _ _ _ (hs5.rely r7).2⟩;generalize w7.setCell ⟨b8,0,none⟩ (.int .i64 x)=w8 at*;clear hs5 hz5 r7 Pq NL;have hF8:=hF.kept Zr;have hS8:=hS.kept Zr;have hI8:=Zr.H8 hI;clear hF hS hI Zr;refine aW C ?_;co_then;refine cF C ?_;refine eF C (v:=?v10) rfl (by rfl) (λw=>run_eq_of λK hK=>?r10) (λw=>?e10) ?uG
  case r10=>go_simp;exact hK
  case e10=>simp[go_sem,Instr.makeFunc]
  try walk_nrm
  rw[V2,aY];show KO _ _ (Pc.go (wk cf cl (.bool true) (msgs da db x db.bJ)) (chain cf cl (.bool true) (.bool false) false K p ((da.bJ.drop (k+1)).map λx=>msgs da db x db.bJ)),γ6) _ _ _ _ _;refine ac8 (d:=call84 b3 b2 b8 b5 b6) (f:=.func 102) (cap:=#[.pointer (some ⟨b3,0,none⟩),.pointer (some ⟨b2,0,none⟩),.pointer (some ⟨b8,0,none⟩),.pointer (some ⟨b5,0,none⟩),.pointer (some ⟨b6,0,none⟩)]) rfl (by rfl) (λw=>?_) (λw=>?_) rfl (Mt _).2 (λ_=>hp _) (λw9 r9 w10 r10=>?_) (λw9 r9 w10 r10=>?_);simp[execOp,resolve,Act.eval,call84,Deferred.ofValue];simp[execOp,resolve,Act.eval,Deferred.ofValue];have hk:=(Kept.rely r9);have rC:=(Kept.rely r10);have RZ:=((hF8.kept hk).give).kept rC;exact Ss hP xK BR hxb.1 ab RZ.wa RZ.wb (rC.sees (hk.sees hx7).give) RZ.f RZ.l;have RZ:=((hF8.kept (Kept.rely r9)).give).kept (Kept.rely r10);have hS9:=((hS8.kept (Kept.rely r9)).give).kept (Kept.rely r10);have hI9:=(Kept.rely r10).H8 ((Kept.rely r9).H8 hI8).give;clear hF8 hS8 hI8 hx7;try walk_nrm
  refine aW C ?_;co_then;refine cF C ?_;iterate 2 (refine av C ?_;try walk_nrm)
  refine aW C (eY ?_);exact⟨da.bJ.length-(k+1),ab,_,k+1,rfl,hS9,RZ,hI9,ab,rfl,qE rfl⟩
 have Pp:k=da.bJ.length:=ab
 subst Pp;have Z0:decide ((da.bJ.length:Int)<(da.bJ.length:Int))=false:=ae
 simp only[List.drop_length,eO];refine av C ?_;try walk_nrm
 refine aW C ?_;co_then;refine bp C (ep C (t:=false) rfl ?_);simp only[aK,if_false];refine o7 C ?_;co_then;exact⟨rfl,rfl,hS,hF,hS.all,_,_,_,qE (F:=λu=>KZ b2 b3 b5 b6 (.slice AA da.bJ.length cap) da.bJ.length da.bJ.length u) rfl⟩
end Go.Co
namespace Go.Co
open Go Go.Conc Go.Proofs
open Classical
variable {P:Program} {aa:Machine->Trace->Prop} {main:Bool} {K:Gm->Goroutine->World->Prop} {fn:FuncId} {p:Pc} {γ:So} {Q:Gm->Exit->Act->World->Prop} {a:Act} {w:World} {ops:Array Oper} {i:Nat} {rest:cy} {o:Oper}
theorem ab0(C:KC P main K C8 Ii)(hp:p≠.ret){b:Nat}{x y z:Value}(ho:ops[i]? =some o)(hw:Region.wanted o (yielded ops a.tmps)=true)(hO:γ.2 b)
  (hrun:∀w₁,jv γ w w₁->(execOp a.eval o).run P w₁=.ok .skip (((w₁.setCell ⟨b,0,none⟩ x).setCell ⟨b,1,none⟩ y).setCell ⟨b,2,none⟩ z)/\∀e∈(execOp a.eval o).events P w₁ #[],∃j,e=⟨.cell ⟨b,j,none⟩,true,false⟩)
  (h:∀w₁,jv γ w w₁->KO K fn (p,γ) ops rest Q (a.put o.dst undef) (((w₁.setCell ⟨b,0,none⟩ x).setCell ⟨b,1,none⟩ y).setCell ⟨b,2,none⟩ z)):KO K fn (p,γ) ops (i::rest) Q a w:=
 zk C ho hw λw₁ r=>by
  obtain⟨h1,h2⟩:=hrun w₁ (ZN hp r);rw[h1];have hsz:(((w₁.setCell ⟨b,0,none⟩ x).setCell ⟨b,1,none⟩ y).setCell ⟨b,2,none⟩ z).heap.size=w₁.heap.size:=by rw[World.size_setCell,World.size_setCell,World.size_setCell]
  refine⟨(p,γ),stg hp ⟨rfl,λc=>⟨.inl,λh=>h.elim id λh=>absurd h.2 ab⟩,ab,λc _ hn=>?_,rfl,rfl,rfl,λe he=>?_⟩,h w₁ (ZN hp r)⟩;have hne:c≠b:=λe=>hn (e▸hO);rw[heap_setCell_other _ _ _ _ hne,heap_setCell_other _ _ _ _ hne,heap_setCell_other _ _ _ _ hne];obtain⟨j,rfl⟩:=h2 e (mem_listed he);exact .inl ⟨_,true,false,rfl,λ_=>hO,.inr hO⟩
theorem Kw.append {A:Nat->Prop}{B0:Nat}{w0 w':World}{γ':So}{v:Value}(h:Kw A B0 w0 γ w)(h1:γ'.1=γ.1)(h2:∀b,γ.2 b->γ'.2 b)(h3:w.heap.size<=w'.heap.size)
  (h4:∀b,γ.all b->b<w.heap.size->some b≠v.ownBlock->w'.heap[b]? =w.heap[b]?) (h5:w'.os=w.os/\w'.output=w.output) (hb:∀b,v.ownBlock=some b->B0<=b):Kw A B0 w0 γ' w':=
 ⟨h.lt,λb hlt=>(h.all b hlt).imp (by rw[h1];exact id) (h2 b),λb hlt=>(h4 b (h.all b hlt) (dD (h.lt b hlt) h.size) λe=>by have:=hb b e.symm;have:=h.lt b hlt;omega).trans (h.blk b hlt),bt h.size h3,h5.1.trans h.env.1,h5.2.trans h.env.2⟩
abbrev Sm:=Int×Int×Int
def wU(m:Sm):Value:=BV m.1 m.2.1 m.2.2
def sX(m:Sm):List Value:=[.int .i64 m.1,.int .i64 m.2.1,.int .i64 m.2.2]
theorem Kb{id:Nat}{R:Exit->Act->World->Prop}(h:R .normal a w):Exit.inBlock id R .normal a w:=h
theorem Ji(l:List Sm):(l.flatMap sX).length=l.length*3:=by
 induction l with
 |nil=>rfl
 |cons m l ih=>simp only[cz,cn,ih,sX,di,lB];omega
theorem abh{m m':Sm}(h:wU m=wU m'):m=m':=by obtain⟨a,b,c⟩:=m;obtain⟨a',b',c'⟩:=m';simp[wU,BV]at h;obtain⟨rfl,rfl,rfl⟩:=h;rfl
theorem HR(m:Sm):∀l:List Sm,(l.map wU).erase (wU m)=(l.erase m).map wU
 |[]=>rfl
 |a::l=>by
  rw[aY,List.erase_cons,List.erase_cons];by_cases h:a=m
  grind
  have h2:¬wU a=wU m:=λe=>h (abh e);simp[h,h2,HR m l]
theorem acs(cf:Nat)(z:Value):C7 cf z []=.recv cf true z λx=>match x with|some _=>.bad|none=>.ret:=rfl
theorem Y9(cf:Nat)(z v0:Value)(vs:List Value):C7 cf z (v0::vs)=.recv cf true z λx=>match x with|some v=>if v∈v0::vs then C7 cf z ((v0::vs).erase v)else .bad|none=>.bad:=by
 unfold C7;show Pc.recv cf true z (λx=>match x with|some v=>if v∈v0::vs then aaE cf z vs.length ((v0::vs).erase v)else .bad|none=>.bad)=_;congr 1;funext x;cases x with
 |none=>rfl
 |some v=>grind
def V8(out:Value)(u:Nat->Value):Act:=
 ⟨#[u 0,u 1,u 2,u 3,u 4,u 5,u 6,u 7,u 8,out,u 10,u 11,u 12,u 13,u 14,u 15,u 16,u 17,u 18,u 19,u 20,u 21,u 22,u 23,u 24,u 25,u 26,u 27,u 28,u 29,u 30,u 31,u 32,u 33,u 34],[]⟩
def PR(cf:Nat)(out:Value)(u:Nat->Value):Act:=
 ⟨#[u 0,u 1,u 2,u 3,u 4,u 5,u 6,u 7,u 8,out,u 10,u 11,u 12,u 13,u 14,u 15,u 16,u 17,u 18,u 19,u 20,u 21,u 22,u 23,.chan (some cf),u 25,u 26,u 27,u 28,u 29,u 30,u 31,u 32,u 33,u 34],[]⟩
def aeL(A:Nat->Prop)(B0:Nat)(w0:World)(R:List Sm)(γ':Gm)(e:Exit)(a':Act)(w':World):Prop:=
 e=.normal/\γ'.1=.ret/\Kw A B0 w0 γ'.2 w'/\∃(got:List Sm)(out:Value),got.Perm R/\w'.ownsRow B0 79 3 out got.length (got.flatMap sX)/\∃u,a'=V8 out u
noncomputable def Wl:Code:=match tg with|.seq _ (.seq _ (.seq _ (.seq (.seq _ x) _)))=>x|_=>.skip
theorem Y8(hP:Plain Tryz.prog){cf:Nat}{A:Nat->Prop}{B0:Nat}{w0:World}{R:List Sm}(hR:R.length<=4294967296)(hS:Kw A B0 w0 γ w)(u:Nat->Value):
  KJ (KG Tryz.prog aa true) 60 (C7 cf (.agg #[.int .i64 0,.int .i64 0,.int .i64 0]) (R.map wU),γ) Wl (aeL A B0 w0 R) (PR cf (.slice none 0 0) u) w:=by
 have C:=B1 (aa:=aa) (main:=true) hP;obtain⟨i0,Gk,Kn,Ur,hz2⟩:=info_parts Oh;have hzv:∀w,(zeroValue 79).run Tryz.prog w=.ok (.agg #[.int .i64 0,.int .i64 0,.int .i64 0]) w:=λw=>by simp[zeroValue,typeInfo,Gk,Kn]
 have hze:∀w es,(zeroValue 79).events Tryz.prog w es=es:=λw es=>by simp[zeroValue,typeInfo,Gk,Kn]
 have hrun:∀(T:Act)(o:Oper)(w:World),o.op=.recv 136 (.tmp 24) true->T.eval (.tmp 24)=.chan (some cf)->(execOp T.eval o).run Tryz.prog w=.ok (.comm #[rcase cf (.agg #[.int .i64 0,.int .i64 0,.int .i64 0])] true (.recv true)) w:=by intro T o w ho hT;simp[execOp,ho,run_underlying Tryz.underlying136,hzv,rcase,hT]
 have xh:∀(T:Act)(o:Oper)(w:World),o.op=.recv 136 (.tmp 24) true->(execOp T.eval o).events Tryz.prog w #[]=#[]:=by intro T o w ho;simp[execOp,ho,run_underlying Tryz.underlying136,hze]
 refine gT C ?_;refine qp C (λn γ' a w'=>∃(γ3:So)(rem got:List Sm)(out:Value),γ'=(C7 cf (.agg #[.int .i64 0,.int .i64 0,.int .i64 0]) (rem.map wU),γ3)/\Kw A B0 w0 γ3 w'/\mC γ3 w' B0 79 3 out got.length (got.flatMap sX)/\(got++rem).Perm R/\n=rem.length/\∃u,a=PR cf out u) (n:=R.length) ⟨γ,R,[],.slice none 0 0,rfl,hS,mC.nil _ _ _,ae,rfl,u,rfl⟩ ?_;clear hS;rintro n γ' a w' ⟨γ3,rem,got,out,hγ,hS,gC,adg,hn,u,Ie⟩;subst hγ;unfold PR at Ie;subst Ie;have hlen:got.length+rem.length<=4294967296:=by have h1:=adg.length_eq;rw[cn]at h1;omega
 refine bp C (cF C ?_);cases rem with
 |nil=>
  simp only[eO];rw[acs];refine JE rfl (by rfl) (λw=>hrun _ _ w rfl rfl) (λw=>xh _ _ w rfl) (λx=>by cases x<;>simp) (λh=>ao) (λx w7 r7=>?_);cases x with
  |some v=>exact IY
  |none=>
   have hS7:=hS.kept (Kept.rely r7);have GA:=gC.rely r7;simp only[Option.getD_none,Option.isSome_none,recvd];try walk_nrm
   refine av C ?_;try walk_nrm
   refine aW C ?_;co_then;refine bp C (ep C (t:=false) rfl ?_);simp only[aK,if_false];refine o7 C ?_;co_then;exact⟨rfl,rfl,hS7,got,out,by simpa using adg,GA.1,qE (F:=λu=>V8 out u) rfl⟩
 |cons m0 ms=>
  simp only[aY];rw[Y9];refine JE rfl (by rfl) (λw=>hrun _ _ w rfl rfl) (λw=>xh _ _ w rfl) (λx=>?_) (λh=>ao) (λx w7 r7=>?_);cases x with
  |none=>simp
  |some v=>
   simp only;split;obtain⟨q,hq⟩:=wR (cf:=cf) (z:=.agg #[.int .i64 0,.int .i64 0,.int .i64 0]) ((wU m0::ms.map wU).erase v);rw[hq];simp
   simp
  cases x with
  |none=>exact IY
  |some v=>
   simp only;by_cases hv:v∈wU m0::ms.map wU
   .rw[if_pos hv];obtain⟨m,hm,rfl⟩:∃m,m∈m0::ms/\wU m=v:=by have:v∈(m0::ms).map wU:=hv;exact er.1 this
    have ajn:(wU m0::ms.map wU).erase (wU m)=((m0::ms).erase m).map wU:=HR m (m0::ms);rw[ajn];have hp2:=List.perm_cons_erase hm;have VZ:=JQ hm;generalize(m0::ms).erase m=aah at*;obtain⟨x,y,s⟩:=m;have hp:C7 cf (.agg #[.int .i64 0,.int .i64 0,.int .i64 0]) (aah.map wU)≠.ret:=by obtain⟨q,hq⟩:=wR (cf:=cf) (z:=.agg #[.int .i64 0,.int .i64 0,.int .i64 0]) (aah.map wU);rw[hq];simp
    have hS7:=hS.kept (Kept.rely r7);have GA:=gC.rely r7;clear hS gC;simp only[tI,Option.isSome_some,recvd,wU,BV];try walk_nrm
    refine av C ?_;try walk_nrm
    refine aW C ?_;co_then;refine bp C (ep C (t:=true) rfl ?_);simp only[if_true];refine lu C ?_;co_then;refine gT C (bp C (cF C ?_));refine av C ?_;try walk_nrm
    refine rK C hp (ob:=?ob4) rfl (by rfl) (λw=>run_eq_of λK hK=>?r4) (λw=>?e4) ?h4
    case r4=>go_simp;exact hK
    case e4=>simp[go_sem]
    intro w5 ZM;try walk_nrm
    have Pq:=(Kept.rely ZM).trans (Kept.alloc γ3 w5 w5.heap.size (.cells #[.int .i64 0,.int .i64 0,.int .i64 0] 79));have hz5:∀j,(w5.alloc (.cells #[.int .i64 0,.int .i64 0,.int .i64 0] 79)).frozen? ⟨w5.heap.size,j,none⟩=false:=λj=>World.frozen?_alloc_new _ _ _ _;have h50:bQ _ _ ⟨w5.heap.size,0,none⟩ (.int .i64 0):=bQ.fresh (γ:=γ3) (w:=w5) (cs:=#[.int .i64 0,.int .i64 0,.int .i64 0]) (t:=79) rfl rfl;have h51:bQ _ _ ⟨w5.heap.size,1,none⟩ (.int .i64 0):=bQ.fresh (γ:=γ3) (w:=w5) (cs:=#[.int .i64 0,.int .i64 0,.int .i64 0]) (t:=79) rfl rfl;have h52:bQ _ _ ⟨w5.heap.size,2,none⟩ (.int .i64 0):=bQ.fresh (γ:=γ3) (w:=w5) (cs:=#[.int .i64 0,.int .i64 0,.int .i64 0]) (t:=79) rfl rfl;have UB:(γ3.more w5.heap.size).2 w5.heap.size:=.inr rfl;have NL:w7.heap.size<=w5.heap.size:=ZM.1;generalize w5.alloc (.cells #[.int .i64 0,.int .i64 0,.int .i64 0] 79)=w6 at*;generalize γ3.more w5.heap.size=γ6 at*;generalize w5.heap.size=b8 at*;clear ZM;refine ab0 C hp (b:=b8) (x:=.int .i64 x) (y:=.int .i64 y) (z:=.int .i64 s) rfl (by rfl) UB (λw₁ h₁=>⟨?_,?_⟩) ?_;have hc0:=(h50.rely h₁).2;have Dy:=(h51.rely h₁).2;have AO:=(h52.rely h₁).2;have hz:∀j,w₁.frozen? ⟨b8,j,none⟩=false:=λj=>(World.frozen?_of_block (h₁.2.1 b8 (.inr UB))).trans (hz5 j);refine(?_:∀K:Result Next->Prop,K (.ok .skip (((w₁.setCell ⟨b8,0,none⟩ (.int .i64 x)).setCell ⟨b8,1,none⟩ (.int .i64 y)).setCell ⟨b8,2,none⟩ (.int .i64 s)))->K _) (·=_) rfl;intro K hK
    go_simp
    try(unfold stored;go_simp)
    exact hK;have hc0:=(h50.rely h₁).2;have Dy:=(h51.rely h₁).2;have AO:=(h52.rely h₁).2;have hz:∀j,w₁.frozen? ⟨b8,j,none⟩=false:=λj=>(World.frozen?_of_block (h₁.2.1 b8 (.inr UB))).trans (hz5 j);intro e he;simp[go_sem,hc0,Dy,AO,hz]at he;rcases he with rfl|rfl|rfl
    grind
    grind
    grind
    intro w9 r9;try walk_nrm
    have hk9:=(((Pq.trans (Kept.rely r9)).put (ad:=⟨b8,0,none⟩) (v:=.int .i64 x) NL).put (ad:=⟨b8,1,none⟩) (v:=.int .i64 y) NL).put (ad:=⟨b8,2,none⟩) (v:=.int .i64 s) NL;have s0:bQ γ6 (((w9.setCell ⟨b8,0,none⟩ (.int .i64 x)).setCell ⟨b8,1,none⟩ (.int .i64 y)).setCell ⟨b8,2,none⟩ (.int .i64 s)) ⟨b8,0,none⟩ (.int .i64 x):=
     bQ.put (bQ.put ⟨.inr UB,World.cell?_setCell_same _ _ _ (h50.rely r9).2⟩ ae) ae
    have s1:bQ γ6 (((w9.setCell ⟨b8,0,none⟩ (.int .i64 x)).setCell ⟨b8,1,none⟩ (.int .i64 y)).setCell ⟨b8,2,none⟩ (.int .i64 s)) ⟨b8,1,none⟩ (.int .i64 y):=
     bQ.put ⟨.inr UB,World.cell?_setCell_same _ _ _ ((h51.rely r9).put ae).2⟩ ae
    have s2:bQ γ6 (((w9.setCell ⟨b8,0,none⟩ (.int .i64 x)).setCell ⟨b8,1,none⟩ (.int .i64 y)).setCell ⟨b8,2,none⟩ (.int .i64 s)) ⟨b8,2,none⟩ (.int .i64 s):=
     ⟨.inr UB,World.cell?_setCell_same _ _ _ (((h52.rely r9).put ae).put ae).2⟩
    generalize((w9.setCell ⟨b8,0,none⟩ (.int .i64 x)).setCell ⟨b8,1,none⟩ (.int .i64 y)).setCell ⟨b8,2,none⟩ (.int .i64 s)=w10 at*;have ag0:=hS7.kept hk9;have W3:=GA.kept hk9;clear hk9 Pq h50 h51 h52 hz5 r9 NL hS7 GA UB;refine aW C ?_;co_then;refine cF C ?_;refine av C ?_;try walk_nrm
    refine rJ C hp (v:=?v6) rfl (by rfl) (λw₁ h₁=>⟨run_eq_of λK hK=>?r6,?e6⟩) ?h6
    case r6=>have hc0:=(bQ.rely s0 h₁).2;have Dy:=(bQ.rely s1 h₁).2;have AO:=(bQ.rely s2 h₁).2;go_simp;exact hK
    case e6=>
     have hc0:=(bQ.rely s0 h₁).2;have Dy:=(bQ.rely s1 h₁).2;have AO:=(bQ.rely s2 h₁).2;intro e he;simp[go_sem,hc0,Dy,AO]at he;rcases he with rfl|rfl|rfl;exact(bQ.rely s0 h₁).Kj;exact(bQ.rely s1 h₁).Kj;exact(bQ.rely s2 h₁).Kj
    try walk_nrm
    refine WV C hp (ob:=?ob7) (n:=1) rfl (by rfl) (λw=>run_eq_of λK hK=>?r7) (λw=>?e7) ?h7
    case r7=>go_simp;exact hK
    case e7=>simp[go_sem]
    intro UH ai2;try walk_nrm
    have ael:=(Kept.rely ai2).trans (Kept.alloc γ6 UH UH.heap.size (.cells #[.int .i64 x,.int .i64 y,.int .i64 s] 79));have ajr:∀(j:Nat)(u:Value),(sX (x,y,s))[j]? =some u->bQ (γ6.more UH.heap.size) (UH.alloc (.cells #[.int .i64 x,.int .i64 y,.int .i64 s] 79)) ((⟨UH.heap.size,0,none⟩:Addr).add j) u:=by intro j u hu;rw[Addr.add_lit];simp only[iw];refine bQ.fresh (γ:=γ6) (w:=UH) rfl ?_;simpa [sX]using hu
    have agZ:=ag0.kept ael;have W0:=W3.kept ael;have af9:(γ6.more UH.heap.size).all UH.heap.size:=.inr (.inr rfl);generalize UH.alloc (.cells #[.int .i64 x,.int .i64 y,.int .i64 s] 79)=w12 at*;generalize γ6.more UH.heap.size=γ12 at*;generalize UH.heap.size=b12 at*;clear ag0 W3 s0 s1 s2 ael;have FF:=Ji got;refine HB C hp (B:=B0) (news:=sX (x,y,s)) (m:=1) (c:=1) (ad:=⟨b12,0,none⟩) (n:=got.length) (xs:=got.flatMap sX) (v:=out) rfl (by rfl) rfl Tryz.underlying34 Gk Kn Ur hz2 rfl an rfl rfl agZ.size W0 rfl ajr af9 (by simp[sX,Value.oneCell']) (by simp only[maxLen];omega) ab ?_;intro v13 w13 γ13 hg1 hg2 hg3 hg4 hg5 akd;have ajR:=agZ.append hg1 hg2 hg3 hg4 hg5 (v:=out) (λb hb=>(W0.1.lt b hb).1);try walk_nrm
    refine av C ?_;try walk_nrm
    refine aW C (Kb (eY ?_));refine⟨aah.length,by simp only[di]at VZ hn;omega,γ13,aah,got++[(x,y,s)],v13,rfl,ajR,?_,?_,rfl,qE rfl⟩
    grind
    grind
   rw[if_neg hv];exact IY
end Go.Co
