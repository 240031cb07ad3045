import Derived.Test.YtadeehilamokkaaGreatDoorPk30
set_option maxHeartbeats 2000000
set_option maxRecDepth 100000
namespace Go.Co
open Go Go.Conc Go.Proofs
variable {aa:Machine->Trace->Prop} {γ:So} {w:World}
theorem Qr{P:Program}{main:Bool}{K:Gm->Goroutine->World->Prop}{p:Pc}{a:Act}{ops:Array Oper}{i:Nat}{rest:cy}{o:Oper}(C:KC P main K CQ H7)(hp:p≠.ret){v:Value}{b:Frame}{k:List Item}{cs:List Frame}(ho:ops[i]? =some o)(hw:Region.wanted o (yielded ops a.tmps)=true)(hk:b.kind≠.early)
  (hrun:∀w₁,iV γ w w₁->(execOp a.eval o).run P w₁=.ok (.value v) w₁/\∀e∈(execOp a.eval o).events P w₁ #[],Z6 γ.1 γ.2 e) (h:K (p,γ) (G (b.at (a.put o.dst v) (.inRegion ops rest::k)) cs) w):K (p,γ) (G (b.at a (.inRegion ops (i::rest)::k)) cs) w:=
 C.step _ _ _ _ λw₁ r=>⟨_,_,_,_,(p,γ),stepG_value ho hw hk (hrun w₁ (ZH hp r)).1,stg hp ⟨rfl,KX λe he=>(hrun w₁ (ZH hp r)).2 e (mem_listed he)⟩,C.rely _ _ _ _ r h⟩
theorem NW:(Tryz.prog.info? 79).map (λi=>(i.zero,i.size,i.bytes))=some (some (.agg #[.int .i64 0,.int .i64 0,.int .i64 0]),3,24):=by kernel_rfl
theorem Mj(w:World)(x y s:Int):(Instr.build 79 #[(0,.int .i64 x),(1,.int .i64 y),(2,.int .i64 s)]).run Tryz.prog w=.ok (.agg #[.int .i64 x,.int .i64 y,.int .i64 s]) w:=
 run_build w 79 _ _ (by kernel_rfl)
theorem Fw(w:World)(es:Array Event)(x y s:Int):(Instr.build 79 #[(0,.int .i64 x),(1,.int .i64 y),(2,.int .i64 s)]).events Tryz.prog w es=es:=by obtain⟨i0,hi,HU,Pp,hz2⟩:=info_parts NW;obtain⟨i3,hi3,hy0,hy1,hy2⟩:=info_parts PE;simp[Instr.build,run_underlying Tryz.underlying79,sizeOf,typeInfo,zeroValue,hi,HU,hi3,hy1];split<;>simp
noncomputable def IJ:Code:=Tryz.f100.body.getD .skip
noncomputable def X84:Code:=match IJ with|.seq x _=>x|_=>.skip
noncomputable def adr:Code:=match IJ with|.seq _ r=>r|_=>.skip
theorem G6(a b:Wk)(x y:Int)(ys:cj):msgs a b x (y::ys)=(gL a b x y).map (Bw x y)++msgs a b x ys:=by simp[msgs]
def ajX(cf cl bl:Nat)(tv:Value)(γ':Gm)(e:Exit)(a':Act)(w':World):Prop:=e=.normal/\γ'.1=wk cf cl tv []/\bF γ'.2 w' ⟨bl,0,none⟩ (.chan (some cl))/\a'.defers=[]/\a'.tmps.size=46/\a'.tmps[4]? =some (.pointer (some ⟨bl,0,none⟩))
theorem YW{bb ba bx bf bl:Nat}{vl:Value}{nl k:Nat}{y:Int}{v:Value}{m:Nat}{a:Act}(hd:a.defers=[])(hsz:a.tmps.size=46)(t0:a.tmps[0]? =some (.pointer (some ⟨bb,0,none⟩)))(t1:a.tmps[1]? =some (.pointer (some ⟨ba,0,none⟩)))(t2:a.tmps[2]? =some (.pointer (some ⟨bx,0,none⟩)))(t3:a.tmps[3]? =some (.pointer (some ⟨bf,0,none⟩)))(t4:a.tmps[4]? =some (.pointer (some ⟨bl,0,none⟩)))
  (t6:a.tmps[6]? =some (.int .i64 y)) (t11:a.tmps[11]? =some vl) (t12:a.tmps[12]? =some (.int .i64 nl)) (t13:a.tmps[13]? =some (.int .i64 k)) (t32:a.tmps[32]? =some v) (t33:a.tmps[33]? =some (.int .i64 m)) (t34:a.tmps[34]? =some (.int .i64 0)):∃u,a=V8 bb ba bx bf bl vl nl k y v m 0 u:=by
 obtain⟨T,df⟩:=a;simp only at hd hsz;subst hd;obtain⟨v0,v1,v2,v3,v4,v5,v6,v7,v8,v9,v10,v11,v12,v13,v14,v15,v16,v17,v18,v19,v20,v21,v22,v23,v24,v25,v26,v27,v28,v29,v30,v31,v32,v33,v34,v35,v36,v37,v38,v39,v40,v41,v42,v43,v44,v45,rfl⟩:=acs T hsz;simp at t0 t1 t2 t3 t4 t6 t11 t12 t13 t32 t33 t34;subst t0 t1 t2 t3 t4 t6 t11 t12 t13 t32 t33 t34;exact pY rfl
theorem Mb(hP:Plain Tryz.prog){bb ba bx bf bl cf cl:Nat}{tv:Value}{da db:Wk}{x:Int}(xd:da.ok)(Bu:db.ok)(J2:0<=x)(hx3:x<4)
  (ha:ga γ w ba da) (hb:ga γ w bb db) (hx:bF γ w ⟨bx,0,none⟩ (.int .i64 x)) (hf:bF γ w ⟨bf,0,none⟩ (.chan (some cf))) (hl:bF γ w ⟨bl,0,none⟩ (.chan (some cl))):
  KJ (KG Tryz.prog aa false) 100 (wk cf cl tv (msgs da db x db.bz),γ) X84 (ajX cf cl bl tv)
   ⟨#[.pointer (some ⟨bb,0,none⟩),.pointer (some ⟨ba,0,none⟩),.pointer (some ⟨bx,0,none⟩),.pointer (some ⟨bf,0,none⟩),.pointer (some ⟨bl,0,none⟩),undef,undef,undef,undef,undef,undef,undef,undef,undef,undef,undef,undef,undef,undef,undef,undef,undef,undef,undef,undef,undef,undef,undef,undef,undef,undef,undef,undef,undef,undef,undef,undef,undef,undef,undef,undef,undef,undef,undef,undef,undef],[]⟩ w:=by
 have C:=BA (aa:=aa) (main:=false) hP;have hp:∀vs,wk cf cl tv vs≠.ret:=λvs=>(Py vs).1;obtain⟨vl,hvl,A,cap,rfl,hA⟩:=hb.bz;have agk:=Bu.few;refine aY C (ct C ?_);iterate 2 (refine av C ?_;try walk_nrm)
 refine iX C (hp _) hvl ?_;iterate 2 (try walk_nrm;refine av C ?_)
 try walk_nrm
 refine aS C ?_;co_then;refine gz C ?_;refine pM C (λn γ' a w'=>∃γ3 k,γ'=(wk cf cl tv (msgs da db x (db.bz.drop k)),γ3)/\Kept γ w γ3 w'/\k<=db.bz.length/\n=db.bz.length-k/\∃u,a=adm bb ba bx bf bl (.slice A db.bz.length cap) db.bz.length k u) (n:=db.bz.length) ⟨γ,0,rfl,Kept.refl _ _,ab,ab,pY rfl⟩ ?_;rintro n γ' a w' ⟨γ3,k,hγ,CL,hk,hn,u,Gc⟩;subst hγ;unfold adm at Gc;subst Gc;refine aY C (ct C ?_);by_cases hlt:k<db.bz.length
 .have ZZ:decide ((k:Int)<(db.bz.length:Int))=true:=by simpa using hlt
  obtain⟨y,hy⟩:∃y,db.bz[k]? =some y:=⟨_,aT hlt⟩;obtain⟨ad,hAe,hsA⟩:=hA k y hy;subst hAe;have hyb:=Bu.bz k y hy;have V2:db.bz.drop k=y::db.bz.drop (k+1):=by rw[jM hlt];congr 1;exact bG ((aT hlt).symm.trans hy)
  have hs3:=CL.sees hsA;have hw5:IntKind.i64.wrap ((k:Int)+1)=(k:Int)+1:=by rw[xl]<;>omega
  refine av C ?_;try walk_nrm
  refine aS C ?_;co_then;refine aY C (dG C (t:=true) rfl ?_);simp only[if_true];refine kJ C ?_;co_then;refine aY C (gz C (aY C (ct C ?_)));refine av C ?_;try walk_nrm
  refine iX C (hp _) hs3 ?_;try walk_nrm
  refine av C ?_;try walk_nrm
  refine aS C ?_;co_then;rw[V2,G6];clear hs3 hA;refine aY C (abo C (hp _) (ha.kept CL) (hb.kept CL) (CL.sees hx) J2 hx3 hyb.1 ab xd Bu rfl rfl rfl rfl rfl rfl ?_);intro v γ4 a4 w4 ZY af9 hold h32 h33 h34 dW MX;co_then;obtain⟨A2,tD,rfl,hA2⟩:=dW.HT;obtain⟨u4,ha4⟩:=YW (bb:=bb) (ba:=ba) (bx:=bx) (bf:=bf) (bl:=bl) (vl:=.slice (some ad) db.bz.length cap) (nl:=db.bz.length) (k:=k) ZY af9 (hold 0 ab) (hold 1 ab) (hold 2 ab) (hold 3 ab) (hold 4 ab) (hold 6 ab) (hold 11 ab) (hold 12 ab) (hold 13 ab) h32 h33 h34;clear hold h32 h33 h34 ZY af9 dW;have ajk:=CL.trans MX;generalize ZV:gL da db x y=l at*;refine gz C ?_;refine pM C (λn γ' a w'=>∃γ5 j,γ'=(wk cf cl tv ((l.drop j).map (Bw x y)++msgs da db x (db.bz.drop (k+1))),γ5)/\Kept γ4 w4 γ5 w'/\j<=l.length/\n=l.length-j/\∃u,a=V8 bb ba bx bf bl (.slice (some ad) db.bz.length cap) db.bz.length k y (.slice A2 l.length tD) l.length j u) (n:=l.length) ⟨γ4,0,rfl,Kept.refl _ _,ab,ab,u4,ha4⟩ ?_;clear ha4 CL;rintro n2 γ' a w6 ⟨γ5,j,hγ,Pt,hj,hn2,u,ha5⟩;subst hγ;unfold V8 at ha5;subst ha5;have hk6:=ajk.trans Pt;refine aY C (ct C ?_);by_cases aap:j<l.length
  .have hd2:decide ((j:Int)<(l.length:Int))=true:=by simpa using aap
   obtain⟨s,hs⟩:∃s,l[j]? =some s:=⟨_,aT aap⟩;obtain⟨ad2,ajK,ai8⟩:=hA2 j s hs;subst ajK;have aft:l.drop j=s::l.drop (j+1):=by rw[jM aap];congr 1;exact bG ((aT aap).symm.trans hs)
   have hs5:=Pt.sees ai8;have hf5:=hk6.sees hf;have hx5:=hk6.sees hx;have hw6:IntKind.i64.wrap ((j:Int)+1)=(j:Int)+1:=by
    have h1:=(Bu.up y.toNat).1;have h2:=(xd.lo x.toNat).1;have h3:l.length<=2001:=by rw[<-ZV];exact bt (IZ _ _ _ _) ab
    rw[xl]<;>omega
   refine av C ?_;try walk_nrm
   refine aS C ?_;co_then;refine aY C (dG C (t:=true) rfl ?_);simp only[if_true];refine kJ C ?_;co_then;refine aY C (gz C (aY C (ct C ?_)));refine av C ?_;try walk_nrm
   refine iX C (hp _) hs5 ?_;try walk_nrm
   refine av C ?_;try walk_nrm
   refine aS C ?_;co_then;refine ct C ?_;refine iX C (hp _) hf5 ?_;try walk_nrm
   refine iX C (hp _) hx5 ?_;iterate 2 (try walk_nrm;refine av C ?_)
   try walk_nrm
   have Uv:=λw=>Mj w x y s;have CN:=λw=>Fw w #[] x y s;refine dO C (v:=?v18) rfl (by rfl) (λw=>run_eq_of λK hK=>?r18) (λw=>?e18) ?h18
   case r18=>go_simp;exact hK
   case e18=>simp[go_sem,CN]
   try walk_nrm
   clear Uv CN;rw[aft];show KO _ _ (Pc.send cf (Bw x y s) (wk cf cl tv ((l.drop (j+1)).map (Bw x y)++msgs da db x (db.bz.drop (k+1)))),γ5) _ _ _ _ _;refine abR rfl (by rfl) rfl rfl rfl (Py _).2 (hp _) (λw7 r7=>?_);have Zq:=Pt.trans (Kept.rely r7);clear hs5 hf5 hx5 hk6 Pt;try walk_nrm
   refine aS C ?_;co_then;refine ct C ?_;iterate 2 (refine av C ?_;try walk_nrm)
   refine aS C (ey ?_);exact⟨l.length-(j+1),ab,γ5,j+1,rfl,Zq,ab,rfl,pY rfl⟩
  have hje:j=l.length:=ab
  subst hje;have hd2:decide ((l.length:Int)<(l.length:Int))=false:=ae
  simp only[List.drop_length,dR,gu];refine av C ?_;try walk_nrm
  refine aS C ?_;co_then;refine aY C (dG C (t:=false) rfl ?_);simp only[aJ,if_false];refine oD C ?_;co_then;refine ct C ?_;iterate 2 (refine av C ?_;try walk_nrm)
  refine aS C (ey ?_);exact⟨db.bz.length-(k+1),ab,γ5,k+1,rfl,hk6,ab,rfl,pY rfl⟩
 have Bt:k=db.bz.length:=ab
 subst Bt;have ZZ:decide ((db.bz.length:Int)<(db.bz.length:Int))=false:=ae
 simp only[List.drop_length];refine av C ?_;try walk_nrm
 refine aS C ?_;co_then;refine aY C (dG C (t:=false) rfl ?_);simp only[aJ,if_false];refine oD C ?_;co_then;exact⟨rfl,rfl,CL.sees hl,rfl,rfl,rfl⟩
noncomputable def bot:Frame:={(default:Frame)with fn:=Tryz.prog.funcs.size,defers:=[],mode:=.panicking [goexitEntry]}
def Zw:Frame:={(default:Frame)with fn:=100,kind:=.deferred}
def call84(bb ba bx bf bl:Nat):Deferred:={target:=.fn (.func 100) #[.pointer (some ⟨bb,0,none⟩),.pointer (some ⟨ba,0,none⟩),.pointer (some ⟨bx,0,none⟩),.pointer (some ⟨bf,0,none⟩),.pointer (some ⟨bl,0,none⟩)],args:=#[]}
theorem abu(a:Act)(hd:a.defers=[])(ops:Array Oper):QuitsIn Tryz.prog 4 (G (Zw.at a [.inRegion ops []]) [bot]):=by obtain⟨T,df⟩:=a;simp only at hd;subst hd;refine .inr ⟨rfl,_,λw=>stepG_region_end,?_⟩;refine .inr ⟨rfl,_,λw=>stepG_end,?_⟩;refine .inr ⟨rfl,G bot [],λw=>?_,?_⟩;simp[G,stepG,unwind,doReturn,results,Frame.at,Zw,bot,Tryz.func100,Tryz.f100,seen,GStep.after,goexitEntry];refine .inr ⟨rfl,{G bot []with status:=.finished},λw=>?_,rfl⟩;simp[G,stepG,unwind,bot,goexitEntry,Frame.catches];rfl
theorem afI(bb ba bx bf bl:Nat)(w:World):stepG Tryz.prog false (born Tryz.prog (call84 bb ba bx bf bl)) w=
  .go (G (Zw.at ⟨#[.pointer (some ⟨bb,0,none⟩),.pointer (some ⟨ba,0,none⟩),.pointer (some ⟨bx,0,none⟩),.pointer (some ⟨bf,0,none⟩),.pointer (some ⟨bl,0,none⟩),undef,undef,undef,undef,undef,undef,undef,undef,undef,undef,undef,undef,undef,undef,undef,undef,undef,undef,undef,undef,undef,undef,undef,undef,undef,undef,undef,undef,undef,undef,undef,undef,undef,undef,undef,undef,undef,undef,undef,undef,undef],[]⟩ [.code IJ]) [bot]) w #[]:=by
 simp[born,call84,stepG,unwind,callDeferred,invoke,callFunc,Tryz.func100,Tryz.f100,seen,GStep.after,G,Frame.enter,Frame.at,Zw,bot,IJ]
theorem Sd(hP:Plain Tryz.prog){bb ba bx bf bl cf cl:Nat}{da db:Wk}{x:Int}(xd:da.ok)(Bu:db.ok)(J2:0<=x)(hx3:x<4)
  (ha:ga γ w ba da) (hb:ga γ w bb db) (hx:bF γ w ⟨bx,0,none⟩ (.int .i64 x)) (hf:bF γ w ⟨bf,0,none⟩ (.chan (some cf))) (hl:bF γ w ⟨bl,0,none⟩ (.chan (some cl))):
  Pr Tryz.prog aa false (wk cf cl (.bool true) (msgs da db x db.bz)) γ (born Tryz.prog (call84 bb ba bx bf bl)) w:=by
 have C:=BA (aa:=aa) (main:=false) hP;have hne:=Py (cf:=cf) (cl:=cl) (tv:=.bool true) (msgs da db x db.bz)
 suffices h:KG Tryz.prog aa false (wk cf cl (.bool true) (msgs da db x db.bz),γ) (born Tryz.prog (call84 bb ba bx bf bl)) w from h (λ_=>hne.1) hne.2
 refine C.go (fr:=(born Tryz.prog (call84 bb ba bx bf bl)).frame) (cs:=[]) (λw=>afI bb ba bx bf bl w) ?_;show KG Tryz.prog aa false _ (G (Zw.at _ (.code (.seq X84 adr)::[])) [bot]) w;refine C.go (λw=>stepG_seq) ?_;refine Mb hP xd Bu J2 hx3 ha hb hx hf hl Zw [.code adr] [bot] rfl (by simp[Zw]) ?_;rintro⟨p',γ'⟩ e a' w' ⟨rfl,sY,jZ,wv,hsz',ht4⟩;simp only at sY jZ;subst sY;show KG Tryz.prog aa false _ (G (Zw.at a' (.code (.region _ _ false)::[])) [bot]) w';refine C.go (λw=>stepG_region) ?_;refine Qr C (Py _).1 (v:=.chan (some cl)) rfl (by rfl) (by simp[Zw]) (λw₁ h₁=>⟨run_eq_of λK hK=>?_,?_⟩) ?_;have hc:=(jZ.rely h₁).2;clear hsz'
 go_simp
 exact hK;have hc:=(jZ.rely h₁).2;intro e he;simp[go_sem,hc,ht4]at he;subst he;exact(jZ.rely h₁).JW;refine JJ rfl (by rfl) rfl ?_ rfl (by simp[Zw]) ⟨4,QuitsD.of_quitsIn (abu _ (by exact wv) _)⟩;simp[Act.eval,Act.put,hsz']
end Go.Co
namespace Go.Co
open Go Go.Conc Go.Proofs
variable {aa:Machine->Trace->Prop} {γ:So} {w:World}
theorem IG{cf cl:Nat}{z2:Value}{qT:Bool}(k:Nat):JX cf cl z2 qT k≠.ret/\JX cf cl z2 qT k≠.stop:=by cases k<;>simp[JX]
theorem ID{P:Program}{main:Bool}{fn:FuncId}{ops:Array Oper}{todo:cy}{Q:Gm->Exit->Act->World->Prop}{a:Act}:KO (KG P aa main) fn (.bad,γ) ops todo Q a w:=λ_ _ _ _ _ _ _ _=>trivial
theorem ac1:(Tryz.prog.info? 4).map (λi=>(i.zero,i.size,i.bytes))=some (some (.bool false),1,1):=by kernel_rfl
theorem aiY(f:FuncId):(Tryz.prog.funcs[f]?).any (·.norace)=false:=by
 have h:Tryz.prog.funcs.all (λf=>!f.norace)=true:=by kernel_rfl
 cases hf:Tryz.prog.funcs[f]? with
 |none=>rfl
 |some fn=>grind
noncomputable def II:Code:=Tryz.f101.body.getD .skip
noncomputable def X85:Code:=match II with|.seq x _=>x|_=>.skip
noncomputable def adq:Code:=match II with|.seq _ r=>r|_=>.skip
def agw(ba bl bf:Nat)(vl:Value)(nl k:Nat)(u:Nat->Value):Act:=
 ⟨#[.pointer (some ⟨ba,0,none⟩),.pointer (some ⟨bl,0,none⟩),.pointer (some ⟨bf,0,none⟩),u 3,u 4,vl,.int .i64 nl,.int .i64 k,u 8,u 9,u 10,u 11,u 12],[]⟩
def Vt(cf cl bf:Nat)(z2:Value)(γ':Gm)(e:Exit)(a':Act)(w':World):Prop:=e=.normal/\γ'.1=JX cf cl z2 false 0/\bF γ'.2 w' ⟨bf,0,none⟩ (.chan (some cf))/\a'.defers=[]/\a'.tmps.size=13/\a'.tmps[2]? =some (.pointer (some ⟨bf,0,none⟩))
theorem MJ(hP:Plain Tryz.prog){ba bl bf cf cl:Nat}{da:Wk}(xd:da.ok)
  (ha:ga γ w ba da) (hf:bF γ w ⟨bf,0,none⟩ (.chan (some cf))) (hl:bF γ w ⟨bl,0,none⟩ (.chan (some cl))):
  KJ (KG Tryz.prog aa false) 101 (JX cf cl (.bool false) false da.bz.length,γ) X85 (Vt cf cl bf (.bool false))
   ⟨#[.pointer (some ⟨ba,0,none⟩),.pointer (some ⟨bl,0,none⟩),.pointer (some ⟨bf,0,none⟩),undef,undef,undef,undef,undef,undef,undef,undef,undef,undef],[]⟩ w:=by
 have C:=BA (aa:=aa) (main:=false) hP;have hp:∀k,JX cf cl (.bool false) false k≠.ret:=λk=>(IG k).1;obtain⟨vl,hvl,A,cap,rfl,-⟩:=ha.bz;have agk:=xd.few;obtain⟨i4,hi4,hy0,hy1,hy2⟩:=info_parts ac1;refine aY C (ct C ?_);iterate 2 (refine av C ?_;try walk_nrm)
 refine iX C (hp _) hvl ?_;iterate 2 (try walk_nrm;refine av C ?_)
 try walk_nrm
 refine aS C ?_;co_then;refine gz C ?_;refine pM C (λn γ' a w'=>∃γ3 k,γ'=(JX cf cl (.bool false) false (da.bz.length-k),γ3)/\Kept γ w γ3 w'/\k<=da.bz.length/\n=da.bz.length-k/\∃u,a=agw ba bl bf (.slice A da.bz.length cap) da.bz.length k u) (n:=da.bz.length) ⟨γ,0,rfl,Kept.refl _ _,ab,ab,pY rfl⟩ ?_;rintro n γ' a w' ⟨γ3,k,hγ,CL,hk,hn,u,Gc⟩;subst hγ;unfold agw at Gc;subst Gc;refine aY C (ct C ?_);by_cases hlt:k<da.bz.length
 .have ZZ:decide ((k:Int)<(da.bz.length:Int))=true:=by simpa using hlt
  have hl3:=CL.sees hl;have hw5:IntKind.i64.wrap ((k:Int)+1)=(k:Int)+1:=by rw[xl]<;>omega
  refine av C ?_;try walk_nrm
  refine aS C ?_;co_then;refine aY C (dG C (t:=true) rfl ?_);simp only[if_true];refine kJ C ?_;co_then;refine aY C (gz C (ct C ?_));refine iX C (hp _) hl3 ?_;try walk_nrm
  have hm:da.bz.length-k=(da.bz.length-(k+1))+1:=ab
  rw[hm];show KO _ _ (Pc.recv cl false (.bool false) (λx=>match x with|some _=>JX cf cl (.bool false) false (da.bz.length-(k+1))|none=>.bad),γ3) _ _ _ _ _;refine Jj rfl (by rfl) (λw=>?_) (λw=>?_) (λx=>?_) (λ_ x=>?_) (λx w7 r7=>?_);simp[execOp,Act.eval,run_underlying Tryz.underlying171,zeroValue,typeInfo,hi4,hy0,rcase];simp[execOp,Act.eval,run_underlying Tryz.underlying171,zeroValue,typeInfo,hi4,hy0];cases x with
  |none=>simp
  |some v=>exact(IG _).2
  grind
  cases x with
  |none=>exact ID
  |some v=>
   have Zq:=CL.trans (Kept.rely r7);clear hl3 CL;simp only[];try walk_nrm
   refine aS C ?_;co_then;refine ct C ?_;iterate 2 (refine av C ?_;try walk_nrm)
   refine aS C (ey ?_);exact⟨da.bz.length-(k+1),ab,γ3,k+1,rfl,Zq,ab,rfl,pY rfl⟩
 have Bt:k=da.bz.length:=ab
 subst Bt;have ZZ:decide ((da.bz.length:Int)<(da.bz.length:Int))=false:=ae
 simp only[Nat.sub_self];refine av C ?_;try walk_nrm
 refine aS C ?_;co_then;refine aY C (dG C (t:=false) rfl ?_);simp only[aJ,if_false];refine oD C ?_;co_then;exact⟨rfl,rfl,CL.sees hf,rfl,rfl,rfl⟩
def Zv:Frame:={(default:Frame)with fn:=101,kind:=.deferred}
def call85(ba bl bf:Nat):Deferred:={target:=.fn (.func 101) #[.pointer (some ⟨ba,0,none⟩),.pointer (some ⟨bl,0,none⟩),.pointer (some ⟨bf,0,none⟩)],args:=#[]}
theorem abt(a:Act)(hd:a.defers=[])(ops:Array Oper):QuitsIn Tryz.prog 4 (G (Zv.at a [.inRegion ops []]) [bot]):=by obtain⟨T,df⟩:=a;simp only at hd;subst hd;refine .inr ⟨rfl,_,λw=>stepG_region_end,?_⟩;refine .inr ⟨rfl,_,λw=>stepG_end,?_⟩;refine .inr ⟨rfl,G bot [],λw=>?_,?_⟩;simp[G,stepG,unwind,doReturn,results,Frame.at,Zv,bot,Tryz.func101,Tryz.f101,seen,GStep.after,goexitEntry];refine .inr ⟨rfl,{G bot []with status:=.finished},λw=>?_,rfl⟩;simp[G,stepG,unwind,bot,goexitEntry,Frame.catches];rfl
theorem afH(ba bl bf:Nat)(w:World):stepG Tryz.prog false (born Tryz.prog (call85 ba bl bf)) w=
  .go (G (Zv.at ⟨#[.pointer (some ⟨ba,0,none⟩),.pointer (some ⟨bl,0,none⟩),.pointer (some ⟨bf,0,none⟩),undef,undef,undef,undef,undef,undef,undef,undef,undef,undef],[]⟩ [.code II]) [bot]) w #[]:=by
 simp[born,call85,stepG,unwind,callDeferred,invoke,callFunc,Tryz.func101,Tryz.f101,seen,GStep.after,G,Frame.enter,Frame.at,Zv,bot,II]
theorem Uc(hP:Plain Tryz.prog){ba bl bf cf cl:Nat}{da:Wk}(xd:da.ok)
  (ha:ga γ w ba da) (hf:bF γ w ⟨bf,0,none⟩ (.chan (some cf))) (hl:bF γ w ⟨bl,0,none⟩ (.chan (some cl))):
  Pr Tryz.prog aa false (JX cf cl (.bool false) false da.bz.length) γ (born Tryz.prog (call85 ba bl bf)) w:=by
 have C:=BA (aa:=aa) (main:=false) hP;have hne:=IG (cf:=cf) (cl:=cl) (z2:=.bool false) (qT:=false) da.bz.length
 suffices h:KG Tryz.prog aa false (JX cf cl (.bool false) false da.bz.length,γ) (born Tryz.prog (call85 ba bl bf)) w from h (λ_=>hne.1) hne.2
 refine C.go (fr:=(born Tryz.prog (call85 ba bl bf)).frame) (cs:=[]) (λw=>afH ba bl bf w) ?_;show KG Tryz.prog aa false _ (G (Zv.at _ (.code (.seq X85 adq)::[])) [bot]) w;refine C.go (λw=>stepG_seq) ?_;refine MJ hP xd ha hf hl Zv [.code adq] [bot] rfl (by simp[Zv]) ?_;rintro⟨p',γ'⟩ e a' w' ⟨rfl,sY,hf',wv,hsz',ht2⟩;simp only at sY hf';subst sY;show KG Tryz.prog aa false _ (G (Zv.at a' (.code (.region _ _ false)::[])) [bot]) w';refine C.go (λw=>stepG_region) ?_;refine Qr C (IG _).1 (v:=.chan (some cf)) rfl (by rfl) (by simp[Zv]) (λw₁ h₁=>⟨run_eq_of λK hK=>?_,?_⟩) ?_;have hc:=(hf'.rely h₁).2;clear hsz'
 go_simp
 exact hK;have hc:=(hf'.rely h₁).2;intro e he;simp[go_sem,hc,ht2]at he;subst he;exact(hf'.rely h₁).JW;refine F3 aiY rfl (by rfl) rfl ?_ (by simp[Zv]) ⟨4,QuitsD.of_quitsIn (abt _ (by exact wv) _)⟩;simp[Act.eval,Act.put,hsz']
end Go.Co
namespace Go.Co
open Go Go.Conc Go.Proofs
open Classical
variable {P:Program} {aa:Machine->Trace->Prop} {γ:So} {w:World}
theorem L6{b:Nat}:γ.give.all b↔γ.all b:=⟨λh=>h.elim id λh=>h.elim,.inl⟩
theorem bF.give {ad:Addr}{v:Value}(h:bF γ w ad v):bF γ.give w ad v:=⟨L6.2 h.1,h.2⟩
theorem Ag.give {v:Value}{l:cj}(h:Ag γ w v l):Ag γ.give w v l:=by obtain⟨A,cap,rfl,h⟩:=h;exact⟨A,cap,rfl,λi x hx=>by obtain⟨ad,h1,h2⟩:=h i x hx;exact⟨ad,h1,h2.give⟩⟩
theorem ga.give {b:Nat}{d:Wk}(h:ga γ w b d):ga γ.give w b d:=
 ⟨h.cS.give,h.bz.imp λ_ ⟨h1,h2⟩=>⟨h1.give,h2.give⟩,λi hi=>(h.up i hi).imp λ_ ⟨h1,h2⟩=>⟨h1.give,h2.give⟩,λi hi=>(h.lo i hi).imp λ_ ⟨h1,h2⟩=>⟨h1.give,h2.give⟩⟩
theorem Kept.put {γ0:So}{w0:World}{ad:Addr}{v:Value}(k:Kept γ0 w0 γ w)(h:w0.heap.size<=ad.block):Kept γ0 w0 γ (w.setCell ad v):=
 ⟨k.shr,k.own,λb hb hlt=>(heap_setCell_other _ _ _ _ ab).trans (k.blk b hb hlt),by rw[World.size_setCell];exact k.size,k.env⟩
structure J6 (A:Nat->Prop) (B0:Nat) (w0:World) (γ:So) (w:World):Prop where
 lt:∀b,A b->b<B0
 all:∀b,A b->γ.all b
 blk:∀b,A b->w.heap[b]? =w0.heap[b]?
 size:B0<=w.heap.size
 env:w.os=w0.os/\w.output=w0.output
theorem J6.kept {A:Nat->Prop}{B0:Nat}{w0 w':World}{γ':So}(h:J6 A B0 w0 γ w)(k:Kept γ w γ' w'):J6 A B0 w0 γ' w':=
 ⟨h.lt,λb hb=>k.all (h.all b hb),λb hb=>(k.blk b (h.all b hb) (cK (h.lt b hb) h.size)).trans (h.blk b hb),bt h.size k.size,k.env.1.trans h.env.1,k.env.2.trans h.env.2⟩
theorem J6.give {A:Nat->Prop}{B0:Nat}{w0:World}(h:J6 A B0 w0 γ w):J6 A B0 w0 γ.give w:=⟨h.lt,λb hb=>L6.2 (h.all b hb),h.blk,h.size,h.env⟩
structure Fx (da db:Wk) (b2 b3 b5 b6 cf cl:Nat) (γ:So) (w:World):Prop where
 wa:ga γ w b2 da
 wb:ga γ w b3 db
 f:bF γ w ⟨b5,0,none⟩ (.chan (some cf))
 l:bF γ w ⟨b6,0,none⟩ (.chan (some cl))
theorem Fx.kept {da db:Wk}{b2 b3 b5 b6 cf cl:Nat}{γ':So}{w':World}(h:Fx da db b2 b3 b5 b6 cf cl γ w)(k:Kept γ w γ' w'):Fx da db b2 b3 b5 b6 cf cl γ' w':=⟨h.wa.kept k,h.wb.kept k,k.sees h.f,k.sees h.l⟩
theorem Fx.give {da db:Wk}{b2 b3 b5 b6 cf cl:Nat}(h:Fx da db b2 b3 b5 b6 cf cl γ w):Fx da db b2 b3 b5 b6 cf cl γ.give w:=⟨h.wa.give,h.wb.give,h.f.give,h.l.give⟩
def PL(b2 b3 b5 b6:Nat)(u:Nat->Value):Act:=
 ⟨#[u 0,u 1,.pointer (some ⟨b2,0,none⟩),.pointer (some ⟨b3,0,none⟩),u 4,.pointer (some ⟨b5,0,none⟩),.pointer (some ⟨b6,0,none⟩),u 7,u 8,u 9,u 10,u 11,u 12,u 13,u 14,u 15,u 16,u 17,u 18,u 19,u 20,u 21,u 22,u 23,u 24,u 25,u 26,u 27,u 28,u 29,u 30,u 31,u 32,u 33,u 34],[]⟩
def Ku(b2 b3 b5 b6:Nat)(vl:Value)(nl k:Nat)(u:Nat->Value):Act:=
 ⟨#[u 0,u 1,.pointer (some ⟨b2,0,none⟩),.pointer (some ⟨b3,0,none⟩),u 4,.pointer (some ⟨b5,0,none⟩),.pointer (some ⟨b6,0,none⟩),u 7,u 8,u 9,u 10,u 11,u 12,u 13,u 14,vl,.int .i64 nl,.int .i64 k,u 18,u 19,u 20,u 21,u 22,u 23,u 24,u 25,u 26,u 27,u 28,u 29,u 30,u 31,u 32,u 33,u 34],[]⟩
def akc(b2 b3 b5 b6 cf:Nat)(out:Value)(u:Nat->Value):Act:=
 ⟨#[u 0,u 1,.pointer (some ⟨b2,0,none⟩),.pointer (some ⟨b3,0,none⟩),u 4,.pointer (some ⟨b5,0,none⟩),.pointer (some ⟨b6,0,none⟩),u 7,u 8,out,u 10,u 11,u 12,u 13,u 14,u 15,u 16,u 17,u 18,u 19,u 20,u 21,u 22,u 23,.chan (some cf),u 25,u 26,u 27,u 28,u 29,u 30,u 31,u 32,u 33,u 34],[]⟩
noncomputable def afK:Code:=Tryz.f64.body.getD .skip
noncomputable def si:Code:=match afK with|.seq _ (.seq _ (.seq _ x))=>x|_=>.skip
noncomputable def agD:Code:=match si with|.seq x _=>x|_=>.skip
theorem LU{cf cl:Nat}{tv z2:Value}{qT:Bool}{K:Nat}{p:Pc}(todo:List (List Value)):chain cf cl tv z2 qT K p todo≠.ret/\chain cf cl tv z2 qT K p todo≠.stop:=by cases todo<;>simp[chain]
def ajY(da db:Wk)(b2 b3 b5 b6 cf cl:Nat)(K:Nat)(p:Pc)(A:Nat->Prop)(B0:Nat)(w0:World)(γ':Gm)(e:Exit)(a':Act)(w':World):Prop:=
 e=.normal/\γ'.1=chain cf cl (.bool true) (.bool false) false K p []/\J6 A B0 w0 γ'.2 w'/\Fx da db b2 b3 b5 b6 cf cl γ'.2 w'/\(∀b,A b->γ'.2.1 b\/γ'.2.2 b)/\∃vl nl k u,a'=Ku b2 b3 b5 b6 vl nl k u
theorem aeS(hP:Plain Tryz.prog){b2 b3 b5 b6 cf cl:Nat}{da db:Wk}(xd:da.ok)(Bu:db.ok){K:Nat}{p:Pc}{A:Nat->Prop}{B0:Nat}{w0:World}(hS:J6 A B0 w0 γ w)(hF:Fx da db b2 b3 b5 b6 cf cl γ w)(u:Nat->Value):
  KJ (KG Tryz.prog aa true) 64 (chain cf cl (.bool true) (.bool false) false K p (da.bz.map λx=>msgs da db x db.bz),γ) agD (ajY da db b2 b3 b5 b6 cf cl K p A B0 w0) (PL b2 b3 b5 b6 u) w:=by
 have C:=BA (aa:=aa) (main:=true) hP;have hp:∀todo,chain cf cl (.bool true) (.bool false) false K p todo≠.ret:=λtodo=>(LU todo).1;obtain⟨v0,ZO,AA,cap,rfl,hA⟩:=hF.wa.bz;have hI:Ag γ w (.slice AA da.bz.length cap) da.bz:=⟨AA,cap,rfl,hA⟩;have agk:=xd.few;unfold PL;refine aY C (ct C ?_);iterate 2 (refine av C ?_;try walk_nrm)
 refine iX C (hp _) ZO ?_;iterate 2 (try walk_nrm;refine av C ?_)
 try walk_nrm
 refine aS C ?_;co_then;refine gz C ?_;clear ZO hA;refine pM C (λn γ' a w'=>∃γ3 k,γ'=(chain cf cl (.bool true) (.bool false) false K p ((da.bz.drop k).map λx=>msgs da db x db.bz),γ3)/\J6 A B0 w0 γ3 w'/\Fx da db b2 b3 b5 b6 cf cl γ3 w'/\Ag γ3 w' (.slice AA da.bz.length cap) da.bz/\k<=da.bz.length/\n=da.bz.length-k/\∃u,a=Ku b2 b3 b5 b6 (.slice AA da.bz.length cap) da.bz.length k u) (n:=da.bz.length) ⟨γ,0,rfl,hS,hF,hI,ab,ab,pY rfl⟩ ?_;clear hS hF hI;rintro n γ' a w' ⟨γ3,k,hγ,hS,hF,hI,hk,hn,u,Gc⟩;subst hγ;unfold Ku at Gc;subst Gc;refine aY C (ct C ?_);by_cases hlt:k<da.bz.length
 .have ZZ:decide ((k:Int)<(da.bz.length:Int))=true:=by simpa using hlt
  obtain⟨x,hx⟩:∃x,da.bz[k]? =some x:=⟨_,aT hlt⟩;have hxb:=xd.bz k x hx;obtain⟨ad,rfl,hsA⟩:∃ad,AA=some ad/\bF γ3 w' (ad.add k) (.int .i64 x):=by obtain⟨A2,tD,he,h2⟩:=hI;cases he;exact h2 k x hx
  have V2:da.bz.drop k=x::da.bz.drop (k+1):=by rw[jM hlt];congr 1;exact bG ((aT hlt).symm.trans hx)
  have hw5:IntKind.i64.wrap ((k:Int)+1)=(k:Int)+1:=by rw[xl]<;>omega
  refine av C ?_;try walk_nrm
  refine aS C ?_;co_then;refine aY C (dG C (t:=true) rfl ?_);simp only[if_true];refine kJ C ?_;co_then;refine aY C (gz C (aY C (ct C ?_)));refine av C ?_;try walk_nrm
  refine iX C (hp _) hsA ?_;try walk_nrm
  refine qN C (hp _) (ob:=?ob9) rfl (by rfl) (λw=>run_eq_of λK hK=>?r9) (λw=>?e9) ?h9
  case r9=>go_simp;exact hK
  case e9=>simp[go_sem]
  intro w5 ZG;try walk_nrm
  have Pt:=(Kept.rely ZG).trans (Kept.alloc γ3 w5 w5.heap.size (.cells #[.int .i64 0] 3));have hz5:(w5.alloc (.cells #[.int .i64 0] 3)).frozen? ⟨w5.heap.size,0,none⟩=false:=World.frozen?_alloc_new _ _ _ _;have hs5:bF _ _ ⟨w5.heap.size,0,none⟩ (.int .i64 0):=bF.fresh (γ:=γ3) (w:=w5) (cs:=#[.int .i64 0]) (t:=3) rfl rfl;have Ux:(γ3.more w5.heap.size).2 w5.heap.size:=.inr rfl;have Nt:w'.heap.size<=w5.heap.size:=ZG.1;generalize w5.alloc (.cells #[.int .i64 0] 3)=w6 at*;generalize γ3.more w5.heap.size=γ6 at*;generalize w5.heap.size=b8 at*;clear hsA ZG;refine NT C (hp _) (ad:=⟨b8,0,none⟩) (v:=.int .i64 x) rfl (by rfl) Ux (λw₁ h₁=>⟨?_,?_⟩) ?_;have hc:=(hs5.rely h₁).2;have hz:w₁.frozen? ⟨b8,0,none⟩=false:=(World.frozen?_of_block (h₁.2.1 b8 (.inr Ux))).trans hz5;refine(?_:∀K:Result Next->Prop,K (.ok .skip (w₁.setCell ⟨b8,0,none⟩ (.int .i64 x)))->K _) (·=_) rfl;intro K hK
  go_simp
  try(unfold stored;go_simp)
  exact hK;have hc:=(hs5.rely h₁).2;have hz:w₁.frozen? ⟨b8,0,none⟩=false:=(World.frozen?_of_block (h₁.2.1 b8 (.inr Ux))).trans hz5;intro e he;simp[go_sem,hc,hz]at he;exact he;intro w7 r7;try walk_nrm
  have Zq:=(Pt.trans (Kept.rely r7)).put (ad:=⟨b8,0,none⟩) (v:=.int .i64 x) Nt;have hx7:bF γ6 (w7.setCell ⟨b8,0,none⟩ (.int .i64 x)) ⟨b8,0,none⟩ (.int .i64 x):=⟨.inr Ux,World.cell?_setCell_same _ _ _ (hs5.rely r7).2⟩;generalize w7.setCell ⟨b8,0,none⟩ (.int .i64 x)=w8 at*;clear hs5 hz5 r7 Pt Nt;have hF8:=hF.kept Zq;have hS8:=hS.kept Zq;have hI8:=Zq.HT hI;clear hF hS hI Zq;refine aS C ?_;co_then;refine ct C ?_;refine dO C (v:=?v10) rfl (by rfl) (λw=>run_eq_of λK hK=>?r10) (λw=>?e10) ?wz
  case r10=>go_simp;exact hK
  case e10=>simp[go_sem,Instr.makeFunc]
  try walk_nrm
  rw[V2,aZ];show KO _ _ (Pc.go (wk cf cl (.bool true) (msgs da db x db.bz)) (chain cf cl (.bool true) (.bool false) false K p ((da.bz.drop (k+1)).map λx=>msgs da db x db.bz)),γ6) _ _ _ _ _;refine ac0 (d:=call84 b3 b2 b8 b5 b6) (f:=.func 100) (cap:=#[.pointer (some ⟨b3,0,none⟩),.pointer (some ⟨b2,0,none⟩),.pointer (some ⟨b8,0,none⟩),.pointer (some ⟨b5,0,none⟩),.pointer (some ⟨b6,0,none⟩)]) rfl (by rfl) (λw=>?_) (λw=>?_) rfl (LU _).2 (λ_=>hp _) (λw9 r9 w10 r10=>?_) (λw9 r9 w10 r10=>?_);simp[execOp,resolve,Act.eval,call84,Deferred.ofValue];simp[execOp,resolve,Act.eval,Deferred.ofValue];have hk:=(Kept.rely r9);have oT:=(Kept.rely r10);have RD:=((hF8.kept hk).give).kept oT;exact Sd hP xd Bu hxb.1 ab RD.wa RD.wb (oT.sees (hk.sees hx7).give) RD.f RD.l;have RD:=((hF8.kept (Kept.rely r9)).give).kept (Kept.rely r10);have hS9:=((hS8.kept (Kept.rely r9)).give).kept (Kept.rely r10);have hI9:=(Kept.rely r10).HT ((Kept.rely r9).HT hI8).give;clear hF8 hS8 hI8 hx7;try walk_nrm
  refine aS C ?_;co_then;refine ct C ?_;iterate 2 (refine av C ?_;try walk_nrm)
  refine aS C (ey ?_);exact⟨da.bz.length-(k+1),ab,_,k+1,rfl,hS9,RD,hI9,ab,rfl,pY rfl⟩
 have Bt:k=da.bz.length:=ab
 subst Bt;have ZZ:decide ((da.bz.length:Int)<(da.bz.length:Int))=false:=ae
 simp only[List.drop_length,dR];refine av C ?_;try walk_nrm
 refine aS C ?_;co_then;refine aY C (dG C (t:=false) rfl ?_);simp only[aJ,if_false];refine oD C ?_;co_then;exact⟨rfl,rfl,hS,hF,hS.all,_,_,_,pY (F:=λu=>Ku b2 b3 b5 b6 (.slice AA da.bz.length cap) da.bz.length da.bz.length u) rfl⟩
end Go.Co
namespace Go.Co
open Go Go.Conc Go.Proofs
open Classical
variable {P:Program} {aa:Machine->Trace->Prop} {main:Bool} {K:Gm->Goroutine->World->Prop} {fn:FuncId} {p:Pc} {γ:So} {Q:Gm->Exit->Act->World->Prop} {a:Act} {w:World} {ops:Array Oper} {i:Nat} {rest:cy} {o:Oper}
theorem abS(C:KC P main K CQ H7)(hp:p≠.ret){b:Nat}{x y z:Value}(ho:ops[i]? =some o)(hw:Region.wanted o (yielded ops a.tmps)=true)(hO:γ.2 b)
  (hrun:∀w₁,iV γ w w₁->(execOp a.eval o).run P w₁=.ok .skip (((w₁.setCell ⟨b,0,none⟩ x).setCell ⟨b,1,none⟩ y).setCell ⟨b,2,none⟩ z)/\∀e∈(execOp a.eval o).events P w₁ #[],∃j,e=⟨.cell ⟨b,j,none⟩,true,false⟩)
  (h:∀w₁,iV γ w w₁->KO K fn (p,γ) ops rest Q (a.put o.dst undef) (((w₁.setCell ⟨b,0,none⟩ x).setCell ⟨b,1,none⟩ y).setCell ⟨b,2,none⟩ z)):KO K fn (p,γ) ops (i::rest) Q a w:=
 yO C ho hw λw₁ r=>by
  obtain⟨h1,h2⟩:=hrun w₁ (ZH hp r);rw[h1];have hsz:(((w₁.setCell ⟨b,0,none⟩ x).setCell ⟨b,1,none⟩ y).setCell ⟨b,2,none⟩ z).heap.size=w₁.heap.size:=by rw[World.size_setCell,World.size_setCell,World.size_setCell]
  refine⟨(p,γ),stg hp ⟨rfl,λc=>⟨.inl,λh=>h.elim id λh=>absurd h.2 ab⟩,ab,λc _ hn=>?_,rfl,rfl,rfl,λe he=>?_⟩,h w₁ (ZH hp r)⟩;have hne:c≠b:=λe=>hn (e▸hO);rw[heap_setCell_other _ _ _ _ hne,heap_setCell_other _ _ _ _ hne,heap_setCell_other _ _ _ _ hne];obtain⟨j,rfl⟩:=h2 e (mem_listed he);exact .inl ⟨_,true,false,rfl,λ_=>hO,.inr hO⟩
theorem J6.append {A:Nat->Prop}{B0:Nat}{w0 w':World}{γ':So}{v:Value}(h:J6 A B0 w0 γ w)(h1:γ'.1=γ.1)(h2:∀b,γ.2 b->γ'.2 b)(h3:w.heap.size<=w'.heap.size)
  (h4:∀b,γ.all b->b<w.heap.size->some b≠v.ownBlock->w'.heap[b]? =w.heap[b]?) (h5:w'.os=w.os/\w'.output=w.output) (hb:∀b,v.ownBlock=some b->B0<=b):J6 A B0 w0 γ' w':=
 ⟨h.lt,λb hlt=>(h.all b hlt).imp (by rw[h1];exact id) (h2 b),λb hlt=>(h4 b (h.all b hlt) (cK (h.lt b hlt) h.size) λe=>by have:=hb b e.symm;have:=h.lt b hlt;omega).trans (h.blk b hlt),bt h.size h3,h5.1.trans h.env.1,h5.2.trans h.env.2⟩
abbrev Sm:=Int×Int×Int
def vV(m:Sm):Value:=Bw m.1 m.2.1 m.2.2
def rR(m:Sm):List Value:=[.int .i64 m.1,.int .i64 m.2.1,.int .i64 m.2.2]
theorem JN{id:Nat}{R:Exit->Act->World->Prop}(h:R .normal a w):Exit.inBlock id R .normal a w:=h
theorem IX(l:List Sm):(l.flatMap rR).length=l.length*3:=by
 induction l with
 |nil=>rfl
 |cons m l ih=>simp only[dm,cL,ih,rR,cT,gr];omega
theorem abc{m m':Sm}(h:vV m=vV m'):m=m':=by obtain⟨a,b,c⟩:=m;obtain⟨a',b',c'⟩:=m';simp[vV,Bw]at h;obtain⟨rfl,rfl,rfl⟩:=h;rfl
theorem HD(m:Sm):∀l:List Sm,(l.map vV).erase (vV m)=(l.erase m).map vV
 |[]=>rfl
 |a::l=>by
  rw[aZ,List.erase_cons,List.erase_cons];by_cases h:a=m
  grind
  have h2:¬vV a=vV m:=λe=>h (abc e);simp[h,h2,HD m l]
theorem acg(cf:Nat)(z:Value):CP cf z []=.recv cf true z λx=>match x with|some _=>.bad|none=>.ret:=rfl
theorem Y8(cf:Nat)(z v0:Value)(vs:List Value):CP cf z (v0::vs)=.recv cf true z λx=>match x with|some v=>if v∈v0::vs then CP cf z ((v0::vs).erase v)else .bad|none=>.bad:=by
 unfold CP;show Pc.recv cf true z (λx=>match x with|some v=>if v∈v0::vs then aaC cf z vs.length ((v0::vs).erase v)else .bad|none=>.bad)=_;congr 1;funext x;cases x with
 |none=>rfl
 |some v=>grind
def V9(out:Value)(u:Nat->Value):Act:=
 ⟨#[u 0,u 1,u 2,u 3,u 4,u 5,u 6,u 7,u 8,out,u 10,u 11,u 12,u 13,u 14,u 15,u 16,u 17,u 18,u 19,u 20,u 21,u 22,u 23,u 24,u 25,u 26,u 27,u 28,u 29,u 30,u 31,u 32,u 33,u 34],[]⟩
def PN(cf:Nat)(out:Value)(u:Nat->Value):Act:=
 ⟨#[u 0,u 1,u 2,u 3,u 4,u 5,u 6,u 7,u 8,out,u 10,u 11,u 12,u 13,u 14,u 15,u 16,u 17,u 18,u 19,u 20,u 21,u 22,u 23,.chan (some cf),u 25,u 26,u 27,u 28,u 29,u 30,u 31,u 32,u 33,u 34],[]⟩
def aer(A:Nat->Prop)(B0:Nat)(w0:World)(R:List Sm)(γ':Gm)(e:Exit)(a':Act)(w':World):Prop:=
 e=.normal/\γ'.1=.ret/\J6 A B0 w0 γ'.2 w'/\∃(got:List Sm)(out:Value),got.Perm R/\w'.ownsRow B0 79 3 out got.length (got.flatMap rR)/\∃u,a'=V9 out u
noncomputable def Wj:Code:=match si with|.seq _ (.seq _ (.seq _ (.seq (.seq _ x) _)))=>x|_=>.skip
theorem Y7(hP:Plain Tryz.prog){cf:Nat}{A:Nat->Prop}{B0:Nat}{w0:World}{R:List Sm}(hR:R.length<=4294967296)(hS:J6 A B0 w0 γ w)(u:Nat->Value):
  KJ (KG Tryz.prog aa true) 64 (CP cf (.agg #[.int .i64 0,.int .i64 0,.int .i64 0]) (R.map vV),γ) Wj (aer A B0 w0 R) (PN cf (.slice none 0 0) u) w:=by
 have C:=BA (aa:=aa) (main:=true) hP;obtain⟨i0,Gb,HU,Pp,hz2⟩:=info_parts NW;have hzv:∀w,(zeroValue 79).run Tryz.prog w=.ok (.agg #[.int .i64 0,.int .i64 0,.int .i64 0]) w:=λw=>by simp[zeroValue,typeInfo,Gb,HU]
 have hze:∀w es,(zeroValue 79).events Tryz.prog w es=es:=λw es=>by simp[zeroValue,typeInfo,Gb,HU]
 have hrun:∀(T:Act)(o:Oper)(w:World),o.op=.recv 170 (.tmp 24) true->T.eval (.tmp 24)=.chan (some cf)->(execOp T.eval o).run Tryz.prog w=.ok (.comm #[rcase cf (.agg #[.int .i64 0,.int .i64 0,.int .i64 0])] true (.recv true)) w:=by intro T o w ho hT;simp[execOp,ho,run_underlying Tryz.underlying170,hzv,rcase,hT]
 have wu:∀(T:Act)(o:Oper)(w:World),o.op=.recv 170 (.tmp 24) true->(execOp T.eval o).events Tryz.prog w #[]=#[]:=by intro T o w ho;simp[execOp,ho,run_underlying Tryz.underlying170,hze]
 refine gz C ?_;refine pM C (λn γ' a w'=>∃(γ3:So)(rem got:List Sm)(out:Value),γ'=(CP cf (.agg #[.int .i64 0,.int .i64 0,.int .i64 0]) (rem.map vV),γ3)/\J6 A B0 w0 γ3 w'/\lG γ3 w' B0 79 3 out got.length (got.flatMap rR)/\(got++rem).Perm R/\n=rem.length/\∃u,a=PN cf out u) (n:=R.length) ⟨γ,R,[],.slice none 0 0,rfl,hS,lG.nil _ _ _,ae,rfl,u,rfl⟩ ?_;clear hS;rintro n γ' a w' ⟨γ3,rem,got,out,hγ,hS,dW,ac5,hn,u,Gc⟩;subst hγ;unfold PN at Gc;subst Gc;have hlen:got.length+rem.length<=4294967296:=by have h1:=ac5.length_eq;rw[cL]at h1;omega
 refine aY C (ct C ?_);cases rem with
 |nil=>
  simp only[dR];rw[acg];refine Jj rfl (by rfl) (λw=>hrun _ _ w rfl rfl) (λw=>wu _ _ w rfl) (λx=>by cases x<;>simp) (λh=>ar) (λx w7 r7=>?_);cases x with
  |some v=>exact ID
  |none=>
   have hS7:=hS.kept (Kept.rely r7);have Gq:=dW.rely r7;simp only[Option.getD_none,Option.isSome_none,recvd];try walk_nrm
   refine av C ?_;try walk_nrm
   refine aS C ?_;co_then;refine aY C (dG C (t:=false) rfl ?_);simp only[aJ,if_false];refine oD C ?_;co_then;exact⟨rfl,rfl,hS7,got,out,by simpa using ac5,Gq.1,pY (F:=λu=>V9 out u) rfl⟩
 |cons m0 ms=>
  simp only[aZ];rw[Y8];refine Jj rfl (by rfl) (λw=>hrun _ _ w rfl rfl) (λw=>wu _ _ w rfl) (λx=>?_) (λh=>ar) (λx w7 r7=>?_);cases x with
  |none=>simp
  |some v=>
   simp only;split;obtain⟨q,hq⟩:=vS (cf:=cf) (z:=.agg #[.int .i64 0,.int .i64 0,.int .i64 0]) ((vV m0::ms.map vV).erase v);rw[hq];simp
   simp
  cases x with
  |none=>exact ID
  |some v=>
   simp only;by_cases hv:v∈vV m0::ms.map vV
   .rw[if_pos hv];obtain⟨m,hm,rfl⟩:∃m,m∈m0::ms/\vV m=v:=by have:v∈(m0::ms).map vV:=hv;exact fQ.1 this
    have aje:(vV m0::ms.map vV).erase (vV m)=((m0::ms).erase m).map vV:=HD m (m0::ms);rw[aje];have hp2:=List.perm_cons_erase hm;have V0:=Rp hm;generalize(m0::ms).erase m=aaf at*;obtain⟨x,y,s⟩:=m;have hp:CP cf (.agg #[.int .i64 0,.int .i64 0,.int .i64 0]) (aaf.map vV)≠.ret:=by obtain⟨q,hq⟩:=vS (cf:=cf) (z:=.agg #[.int .i64 0,.int .i64 0,.int .i64 0]) (aaf.map vV);rw[hq];simp
    have hS7:=hS.kept (Kept.rely r7);have Gq:=dW.rely r7;clear hS dW;simp only[sE,Option.isSome_some,recvd,vV,Bw];try walk_nrm
    refine av C ?_;try walk_nrm
    refine aS C ?_;co_then;refine aY C (dG C (t:=true) rfl ?_);simp only[if_true];refine kJ C ?_;co_then;refine gz C (aY C (ct C ?_));refine av C ?_;try walk_nrm
    refine qN C hp (ob:=?ob4) rfl (by rfl) (λw=>run_eq_of λK hK=>?r4) (λw=>?e4) ?h4
    case r4=>go_simp;exact hK
    case e4=>simp[go_sem]
    intro w5 ZG;try walk_nrm
    have Pt:=(Kept.rely ZG).trans (Kept.alloc γ3 w5 w5.heap.size (.cells #[.int .i64 0,.int .i64 0,.int .i64 0] 79));have hz5:∀j,(w5.alloc (.cells #[.int .i64 0,.int .i64 0,.int .i64 0] 79)).frozen? ⟨w5.heap.size,j,none⟩=false:=λj=>World.frozen?_alloc_new _ _ _ _;have h50:bF _ _ ⟨w5.heap.size,0,none⟩ (.int .i64 0):=bF.fresh (γ:=γ3) (w:=w5) (cs:=#[.int .i64 0,.int .i64 0,.int .i64 0]) (t:=79) rfl rfl;have h51:bF _ _ ⟨w5.heap.size,1,none⟩ (.int .i64 0):=bF.fresh (γ:=γ3) (w:=w5) (cs:=#[.int .i64 0,.int .i64 0,.int .i64 0]) (t:=79) rfl rfl;have h52:bF _ _ ⟨w5.heap.size,2,none⟩ (.int .i64 0):=bF.fresh (γ:=γ3) (w:=w5) (cs:=#[.int .i64 0,.int .i64 0,.int .i64 0]) (t:=79) rfl rfl;have Ux:(γ3.more w5.heap.size).2 w5.heap.size:=.inr rfl;have Nt:w7.heap.size<=w5.heap.size:=ZG.1;generalize w5.alloc (.cells #[.int .i64 0,.int .i64 0,.int .i64 0] 79)=w6 at*;generalize γ3.more w5.heap.size=γ6 at*;generalize w5.heap.size=b8 at*;clear ZG;refine abS C hp (b:=b8) (x:=.int .i64 x) (y:=.int .i64 y) (z:=.int .i64 s) rfl (by rfl) Ux (λw₁ h₁=>⟨?_,?_⟩) ?_;have hc0:=(h50.rely h₁).2;have Dk:=(h51.rely h₁).2;have Ae:=(h52.rely h₁).2;have hz:∀j,w₁.frozen? ⟨b8,j,none⟩=false:=λj=>(World.frozen?_of_block (h₁.2.1 b8 (.inr Ux))).trans (hz5 j);refine(?_:∀K:Result Next->Prop,K (.ok .skip (((w₁.setCell ⟨b8,0,none⟩ (.int .i64 x)).setCell ⟨b8,1,none⟩ (.int .i64 y)).setCell ⟨b8,2,none⟩ (.int .i64 s)))->K _) (·=_) rfl;intro K hK
    go_simp
    try(unfold stored;go_simp)
    exact hK;have hc0:=(h50.rely h₁).2;have Dk:=(h51.rely h₁).2;have Ae:=(h52.rely h₁).2;have hz:∀j,w₁.frozen? ⟨b8,j,none⟩=false:=λj=>(World.frozen?_of_block (h₁.2.1 b8 (.inr Ux))).trans (hz5 j);intro e he;simp[go_sem,hc0,Dk,Ae,hz]at he;rcases he with rfl|rfl|rfl
    grind
    grind
    grind
    intro w9 r9;try walk_nrm
    have hk9:=(((Pt.trans (Kept.rely r9)).put (ad:=⟨b8,0,none⟩) (v:=.int .i64 x) Nt).put (ad:=⟨b8,1,none⟩) (v:=.int .i64 y) Nt).put (ad:=⟨b8,2,none⟩) (v:=.int .i64 s) Nt;have s0:bF γ6 (((w9.setCell ⟨b8,0,none⟩ (.int .i64 x)).setCell ⟨b8,1,none⟩ (.int .i64 y)).setCell ⟨b8,2,none⟩ (.int .i64 s)) ⟨b8,0,none⟩ (.int .i64 x):=
     bF.put (bF.put ⟨.inr Ux,World.cell?_setCell_same _ _ _ (h50.rely r9).2⟩ ae) ae
    have s1:bF γ6 (((w9.setCell ⟨b8,0,none⟩ (.int .i64 x)).setCell ⟨b8,1,none⟩ (.int .i64 y)).setCell ⟨b8,2,none⟩ (.int .i64 s)) ⟨b8,1,none⟩ (.int .i64 y):=
     bF.put ⟨.inr Ux,World.cell?_setCell_same _ _ _ ((h51.rely r9).put ae).2⟩ ae
    have s2:bF γ6 (((w9.setCell ⟨b8,0,none⟩ (.int .i64 x)).setCell ⟨b8,1,none⟩ (.int .i64 y)).setCell ⟨b8,2,none⟩ (.int .i64 s)) ⟨b8,2,none⟩ (.int .i64 s):=
     ⟨.inr Ux,World.cell?_setCell_same _ _ _ (((h52.rely r9).put ae).put ae).2⟩
    generalize((w9.setCell ⟨b8,0,none⟩ (.int .i64 x)).setCell ⟨b8,1,none⟩ (.int .i64 y)).setCell ⟨b8,2,none⟩ (.int .i64 s)=w10 at*;have agp:=hS7.kept hk9;have WZ:=Gq.kept hk9;clear hk9 Pt h50 h51 h52 hz5 r9 Nt hS7 Gq Ux;refine aS C ?_;co_then;refine ct C ?_;refine av C ?_;try walk_nrm
    refine qM C hp (v:=?v6) rfl (by rfl) (λw₁ h₁=>⟨run_eq_of λK hK=>?r6,?e6⟩) ?h6
    case r6=>have hc0:=(bF.rely s0 h₁).2;have Dk:=(bF.rely s1 h₁).2;have Ae:=(bF.rely s2 h₁).2;go_simp;exact hK
    case e6=>
     have hc0:=(bF.rely s0 h₁).2;have Dk:=(bF.rely s1 h₁).2;have Ae:=(bF.rely s2 h₁).2;intro e he;simp[go_sem,hc0,Dk,Ae]at he;rcases he with rfl|rfl|rfl;exact(bF.rely s0 h₁).JW;exact(bF.rely s1 h₁).JW;exact(bF.rely s2 h₁).JW
    try walk_nrm
    refine WS C hp (ob:=?ob7) (n:=1) rfl (by rfl) (λw=>run_eq_of λK hK=>?r7) (λw=>?e7) ?h7
    case r7=>go_simp;exact hK
    case e7=>simp[go_sem]
    intro UD aiP;try walk_nrm
    have ad1:=(Kept.rely aiP).trans (Kept.alloc γ6 UD UD.heap.size (.cells #[.int .i64 x,.int .i64 y,.int .i64 s] 79));have ajh:∀(j:Nat)(u:Value),(rR (x,y,s))[j]? =some u->bF (γ6.more UD.heap.size) (UD.alloc (.cells #[.int .i64 x,.int .i64 y,.int .i64 s] 79)) ((⟨UD.heap.size,0,none⟩:Addr).add j) u:=by intro j u hu;rw[Addr.add_lit];simp only[eO];refine bF.fresh (γ:=γ6) (w:=UD) rfl ?_;simpa [rR]using hu
    have ago:=agp.kept ad1;have WY:=WZ.kept ad1;have afy:(γ6.more UD.heap.size).all UD.heap.size:=.inr (.inr rfl);generalize UD.alloc (.cells #[.int .i64 x,.int .i64 y,.int .i64 s] 79)=w12 at*;generalize γ6.more UD.heap.size=γ12 at*;generalize UD.heap.size=b12 at*;clear agp WZ s0 s1 s2 ad1;have Dj:=IX got;refine Hp C hp (B:=B0) (news:=rR (x,y,s)) (m:=1) (c:=1) (ad:=⟨b12,0,none⟩) (n:=got.length) (xs:=got.flatMap rR) (v:=out) rfl (by rfl) rfl Tryz.underlying56 Gb HU Pp hz2 rfl ao rfl rfl ago.size WY rfl ajh afy (by simp[rR,Value.oneCell']) (by simp only[maxLen];omega) ab ?_;intro v13 w13 γ13 Zr hg2 hg3 hg4 hg5 aj4;have ajJ:=ago.append Zr hg2 hg3 hg4 hg5 (v:=out) (λb hb=>(WY.1.lt b hb).1);try walk_nrm
    refine av C ?_;try walk_nrm
    refine aS C (JN (ey ?_));refine⟨aaf.length,by simp only[cT]at V0 hn;omega,γ13,aaf,got++[(x,y,s)],v13,rfl,ajJ,?_,?_,rfl,pY rfl⟩
    grind
    grind
   rw[if_neg hv];exact ID
end Go.Co
