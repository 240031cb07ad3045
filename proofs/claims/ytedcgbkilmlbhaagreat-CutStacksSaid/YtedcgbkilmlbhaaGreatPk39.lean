import Derived.Test.YtedcgbkilmlbhaaGreatPk38
import Derived.Test.YtedcgbkilmlbhaaGreatPk05
import Derived.Test.YtedcgbkilmlbhaaGreatPk27
set_option maxRecDepth 1000000
namespace Go.Di
open Go Go.Conc Go.Co Go.Proofs
variable {aa:Machine->Trace->Prop} {x:Cx}
def oU:b9:=λf args=>match f,args with
 |60,[a,b]=>II a b
 |133,[a]=>aag a
 |43,[a]=>aaD a
 |_,_=>none
theorem j3:u6 Tryz.prog aa oU:=by intro f args v h _ _ x vals hR ha;unfold oU at h;split at h;exact MN h hR ha;exact SS h hR ha;exact Ud h hR ha;cases h
theorem afm(P:Program)(g:Tmp->TypeId->Nat):kM P ⟨Va P,g⟩:=λ_ _ h=>h
theorem acM:kM Tryz.prog TyH:=afm _ _
theorem Hv:Tryz.prog.follows .mixedOrders=true:=by kernel_rfl
mutual
def DV.eqb:DV->DV->Bool
 |.val (.int k n),.val (.int k' n')=>decide (k=k')&&decide (n=n')
 |.val (.bool b),.val (.bool b')=>b==b'
 |.agg l,.agg l'=>DV.KF l l'
 |.tup l,.tup l'=>DV.KF l l'
 |.sl l none ⟨f,i⟩,.sl l' none ⟨f',i'⟩=>f==f'&&decide (i=i')&&DV.KF l l'
 |_,_=>false
def DV.KF:cj->cj->Bool
 |[],[]=>true
 |d::l,d'::l'=>DV.eqb d d'&&DV.KF l l'
 |_,_=>false
end
mutual
theorem Xb:∀d d':DV,DV.eqb d d'=true->d=d':=by
 intro d d' h;unfold DV.eqb at h;split at h;simp at h;obtain⟨rfl,rfl⟩:=h;rfl
 simp at h;subst h;rfl
 rw[zy _ _ h];rw[zy _ _ h];simp at h;obtain⟨⟨rfl,rfl⟩,h⟩:=h;rw[zy _ _ h]
 cases h
theorem zy:∀l l':cj,DV.KF l l'=true->l=l':=by
 intro l l' h;unfold DV.KF at h;split at h;rfl;simp at h;rw[Xb _ _ h.1,zy _ _ h.2]
 cases h
end
abbrev Row:=FuncId×cj×DV
def more(bI:b9)(rows:List Row):b9:=λf args=>match rows.find? (λr=>decide (r.1=f)&&DV.KF r.2.1 args)with
 |some r=>some r.2.2
 |none=>bI f args
def RO(P:Program)(aa:Machine->Trace->Prop)(r:Row):Prop:=
 ∀x vals,Rel x->ig x r.2.1 vals->fS P aa x r.1 vals λy u=>y.S=x.S/\Rel y/\cg x y/\RV y r.2.2 u
theorem QV{P:Program}{bI:b9}{rows:List Row}(ht:u6 P aa bI)(h:∀r∈rows,RO P aa r):u6 P aa (more bI rows):=by intro f args v h1 hp hv x vals hR ha;unfold more at h1;split at h1;rename_i r hr;cases h1;have h2:=List.find?_some hr;simp only[aD,cA]at h2;obtain⟨rfl,h3⟩:=h2;cases zy _ _ h3;exact h r (List.mem_of_find?_eq_some hr) x vals hR ha;exact ht f args v h1 hp hv x vals hR ha
noncomputable def Pk (bI:b9)(L n:Nat)(r:Row):Bool:=r.2.1.all DV.pure&&match kV bI (dI Tryz.prog TyH bI L n).1 r.1 r.2.1 with
 |some v=>DV.eqb r.2.2 v
 |none=>false
theorem fe{bI:b9}{L n:Nat}{r:Row}(ht:u6 Tryz.prog aa bI)(h:Pk bI L n r=true):RO Tryz.prog aa r:=by unfold Pk at h;simp only[aD]at h;obtain⟨hp,h⟩:=h;split at h;rename_i v hv;cases Xb _ _ h;exact(Og ht (EN lX Hv acM ht n).1 r.1 r.2.1 _ hv hp).2;cases h
abbrev ii(n:Int):DV:=.val (.int .i64 n)
abbrev bb(b:Bool):DV:=.val (.bool b)
abbrev sn:SF:=⟨false,some false⟩
abbrev su:SF:=⟨false,none⟩
abbrev va:DV:=(.agg [(.sl [(ii (0)),(ii (0)),(ii (0)),(ii (0))] none sn),(.sl [(ii (1)),(ii (2)),(ii (1)),(ii (3))] none sn),(ii (0)),(.sl [(ii (0))] none sn)])
abbrev vb:DV:=(.agg [(.sl [(ii (4)),(ii (3)),(ii (4)),(ii (2))] none sn),(.sl [(ii (0)),(ii (1)),(ii (0)),(ii (0))] none sn),(ii (0)),(.sl [(ii (0)),(ii (1)),(ii (2)),(ii (3))] none sn)])
abbrev acU:Row:=(56,[],va)
abbrev acT:Row:=(57,[],vb)
abbrev acZ:Row:=(55,[va,vb,(ii (0))],(.tup [(.agg [(ii (5)),(ii (5))]),(ii (0))]))
abbrev ac0:Row:=(17,[(.sl [va,vb] none sn),(ii (0)),(ii (1))],(.tup [(.sl [(.agg [(ii (0)),(ii (0)),(ii (0))]),(.agg [(ii (0)),(ii (2)),(ii (-1))])] none su),(ii (0))]))
abbrev ac1:Row:=(19,[(.sl [va,vb] none sn),(ii (0)),(ii (1))],(.tup [(ii (2)),(ii (0))]))
abbrev acY:Row:=(30,[(.sl [va,vb] none sn)],(.tup [(.sl [(.agg [(ii (0)),(ii (0)),(ii (0))]),(.agg [(ii (1)),(ii (0)),(ii (0))])] none su),(ii (0))]))
abbrev acV:Row:=(33,[(.sl [va,vb] none sn),(.sl [(.agg [(ii (0)),(ii (0)),(ii (0))]),(.agg [(ii (1)),(ii (0)),(ii (1))])] none sn)],(.tup [(ii (1)),(ii (0))]))
abbrev acX:Row:=(37,[(.sl [va,vb] none sn)],(.tup [(.sl [(.sl [(ii (0)),(ii (0))] none sn),(.sl [(ii (1)),(ii (1))] none sn)] none su),(ii (0))]))
abbrev acS:Row:=(21,[(.sl [(.agg [(ii (0)),(ii (0)),(ii (0))]),(.agg [(ii (0)),(ii (2)),(ii (-1))])] none su),(.sl [(.agg [(ii (0)),(ii (0)),(ii (0))]),(.agg [(ii (0)),(ii (2)),(ii (-1))])] none sn)],(bb true))
abbrev acW:Row:=(32,[(.sl [(.agg [(ii (0)),(ii (0)),(ii (0))]),(.agg [(ii (1)),(ii (0)),(ii (0))])] none su),(.sl [(.agg [(ii (0)),(ii (0)),(ii (0))]),(.agg [(ii (1)),(ii (0)),(ii (0))])] none sn)],(bb true))
abbrev acR:Row:=(24,[(.sl [(.sl [(ii (0)),(ii (0))] none sn),(.sl [(ii (1)),(ii (1))] none sn)] none su),(.sl [(.sl [(ii (0)),(ii (0))] none sn),(.sl [(ii (1)),(ii (1))] none sn)] none sn)],(bb true))
theorem ahD:Pk oU 100 40 acU=true:=by decide+kernel
theorem ahC:Pk oU 100 40 acT=true:=by decide+kernel
theorem ahI:Pk oU 100 40 acZ=true:=by decide+kernel
theorem ahK:Pk oU 100 40 ac0=true:=by decide+kernel
theorem ahL:Pk oU 100 40 ac1=true:=by decide+kernel
theorem ahH:Pk oU 100 40 acY=true:=by decide+kernel
theorem ahE:Pk oU 100 40 acV=true:=by decide+kernel
theorem ahG:Pk oU 100 40 acX=true:=by decide+kernel
theorem ahB:Pk oU 100 40 acS=true:=by decide+kernel
theorem ahF:Pk oU 100 40 acW=true:=by decide+kernel
theorem ahA:Pk oU 100 40 acR=true:=by decide+kernel
abbrev N4:List Row:=[acU,acT,acZ,ac0,ac1,acY,acV,acX,acS,acW,acR]
theorem ahJ:Pk (more oU N4) 100 2 (12,[],bb true)=true:=by decide+kernel
theorem XA:u6 Tryz.prog aa (more oU N4):=QV j3 (by intro r hr;simp only[N4,bE,eP,or_false]at hr;rcases hr with rfl|rfl|rfl|rfl|rfl|rfl|rfl|rfl|rfl|rfl|rfl;exact fe j3 ahD;exact fe j3 ahC;exact fe j3 ahI;exact fe j3 ahK;exact fe j3 ahL;exact fe j3 ahH;exact fe j3 ahE;exact fe j3 ahG;exact fe j3 ahB;exact fe j3 ahF;exact fe j3 ahA)
def DF:b9:=more oU [(12,[],bb true)]
theorem abc:u6 Tryz.prog aa DF:=QV j3 (by intro r hr;simp only[bE,eP,or_false]at hr;subst hr;exact fe XA ahJ)
end Go.Di
namespace Go.Di
open Go Go.Conc Go.Co Go.Proofs
variable {P:Program} {ty:gb} {x:Cx} {aI:b9} {call:bG} {yf:ez}
structure u7 (W w:World):Prop where
 os:w.os=W.os
 output:w.output=W.output
 block:∀k,k<W.heap.size->w.heap[k]? =W.heap[k]?
theorem XG{x y:Cx}(M:cg x y)(hS:x.S=[]):u7 x.w y.w:=
 ⟨M.env.1,M.env.2,λk hk=>M.old k hk λi hi=>absurd (hS▸hi) (gV i)⟩
theorem u7.at {W w:World}(h:u7 W w)(d:Nat):u7 W (w.at d):=⟨h.os,h.output,h.block⟩
theorem Aw{Post:Value->World->Prop}(hP:Plain P)(fN:kM P ty){x0:Cx}{b:Frame}{todo:List Item}{fn:Func}{env:cj}{l:cj}(hb:b.kind=.normal)(hf:P.funcs[b.fn]? =some fn)(hi:P.inits.idxOf? b.fn=none){Sr:ai}{u:Value}:
  ∀(ds:cy){a:Act}{x:Cx},x.S=Sr->Rel x->cg x0 x->ig x env a.tmps->ve x0.S.length x ds a.defers->uI ty env Sr fn.results.toList=some l->
   (∀y v,y.S=Sr->Rel y->cg x0 y->RV y (oneOf l) v->v=u/\Post u y.w)->jh P (CY P Post) () (G {b.at a todo with mode:=.returning} []) x.w
 |[],a,x,hS,hR,hM,he,hd,hr,hn=>by
  have Nu:a.defers=[]:=hd.1;have key:∀n,(results fn a.tmps).run P (x.w.at n)=.ok u (x.w.at n)/\Post u (x.w.at n):=λn=>by obtain⟨v,h1,h2⟩:=E6 (x:=x.dr n) fN (hR.dr n) (he.mono (fQ x n)) (l:=l) (by show uI ty env x.S _=_;rw[hS];exact hr);obtain⟨rfl,h3⟩:=hn (x.dr n) v hS (hR.dr n) (hM.trans (fQ x n)) h2;exact⟨h1,h3⟩
  exact af0 (v:=u) (λd=>⟨rfl,Nu,hb,fn,hf,(key d).1⟩) hi λd=>(key d).2
 |id::ds,a,x,hS,hR,hM,he,hd,hr,hn=>by
  obtain⟨q1,q2,q3⟩:=hd;obtain⟨r1,r2,r3⟩:=q3 id ae;refine jk hP λn=>?_;have mY:=hR.dr n;have hM':=hM.trans (fQ x n);obtain⟨t1,t2,t3⟩:=P8 (x:=x.dr n) hM' mY r1 r2;have hg:=jN (P:=P) (w:=x.w.at n) (show(x.w.at n).heap[x.μ id]? =_ from r3) ae;have hs:=lM (P:=P) (w:=x.w.at n) (o:=.deferred none) (show(x.w.at n).heap[x.μ id]? =_ from r3) ae;have PJ:(Instr.takeDeferred (x.μ id)).run P (x.w.at n)=.ok [] (cK (x.w.at n) (x.μ id) (.deferred none)):=by simp only[Instr.takeDeferred,Sem.run_bind,hg,Result.andThen_ok,hs,Sem.run_pure]
  obtain⟨es,hst⟩:=Qu (P:=P) (b:=b) (a:=a) (todo:=todo) (cs:=[]) (ds:=ds.map λid=>{target:=.collected (x.μ id),args:=#[]}) (by rw[q1];rfl) PJ;refine⟨_,_,_,es,hst,?_⟩;have Dw:=List.nodup_cons.1 q2;exact Aw hP fN hb hf hi ds (x:={x.dr n with w:=cK (x.w.at n) (x.μ id) (.deferred none)}) (a:={a with defers:=ds.map λid=>{target:=.collected (x.μ id),args:=#[]}}) hS t1 t2 ⟨he.1,λj c hc=>t3 _ _ (RV.mono (fQ x n) (he.2 j c hc))⟩
   ⟨rfl,Dw.2,λi hi=>by obtain⟨u1,u2,u3⟩:=q3 i (by simp[hi]);have hne:x.μ i≠x.μ id:=λe=>Dw.1 (hR.inj i id (bD u2 ae) (bD r2 ae) e▸hi);exact⟨u1,u2,(ia _ _ _ hne).trans u3⟩⟩ hr hn
theorem Zh{Post:Value->World->Prop}(hP:Plain P)(fN:kM P ty)(hc:iF P (CY P Post) call)(mW:∀id ops draw,y9 P (CY P Post) ty aI call yf id ops draw){L:Nat}{f:FuncId}{fn:Func}(hf:P.funcs[f]? =some fn)(hi:P.inits.idxOf? f=none)
  {args:cj} {S S':ai} {v:DV} (h:uA P ty aI call yf L f fn args S=some (v,S'))
  {vals:Array Value} (hR:Rel x) (hS:x.S=S) (ha:ig x args vals) {u:Value} (hu:∀y u',y.S=S'->Rel y->cg x y->RV y v u'->u'=u/\Post u y.w):jh P (CY P Post) () (G (Frame.enter P f vals .normal) []) x.w:=by
 subst hS;unfold uA at h;split at h;rename_i c hb;rw[enter_at vals hf hb,<-Frame.atR_of_none (b:=base f) rfl];have he:ig x (args++List.replicate (fn.ntmps-args.length) bK) (vals++Array.replicate (fn.ntmps-vals.size) undef):=by
  refine nB ha ⟨by simp[ha.1],λj c hc=>?_⟩;rw[zN]at hc;split at hc;rename_i hj;cases hc;have:j<fn.ntmps-vals.size:=by rw[ha.1];exact hj
  have e:(Array.replicate (fn.ntmps-vals.size) undef).getD j undef=undef:=by simp[bF,this]
  rw[e];exact .val rfl;cases hc
 have key:∀e aL S1,de P ty aI call yf L f false c (args++List.replicate (fn.ntmps-args.length) bK) x.S=some (e,aL,S1)->(e=.normal\/e=.ret)->(uI ty aL S1 fn.results.toList).map (λl=>(oneOf l,S1))=some (v,S')->
   jh P (CY P Post) () (G ((base f).atR {tmps:=vals++Array.replicate (fn.ntmps-vals.size) undef,defers:=[]} [.code c]) []) x.w:=by
  intro e aL S1 h1 he1 h2;simp only[ah,aA]at h2;obtain⟨l,h3,rfl,rfl⟩:=h2;refine Af (n0:=x.S.length) (ds:=[]) (b:=base f) (cs:=[]) (jg:=false) hP hc (by simp[base]) rfl (λ_=>rfl) c (zX mW c) h1 hR he (BH _ _) (ak _) λy a' iL q1 q2 q3 q4 q5=>?_;have lK:∀todo,jh P (CY P Post) () (G {(base f).at a' todo with mode:=.returning} []) y.w:=λtodo=>
   Aw hP fN (x0:=x) (b:=base f) (env:=aL) (l:=l) (Sr:=S1) rfl hf hi iL q1 q2 q3 q4 q5 h3 λz u r1 r2 r3 r4=>hu z u r1 r2 r3 r4
  rcases he1 with rfl|rfl;show jh P (CY P Post) () (G ((base f).atR a' []) []) y.w;rw[Frame.atR_of_none (b:=base f) rfl];exact gq hP (λw=>⟨_,stepG_end⟩) (lK _);intro k';rw[Frame.atR_of_none (b:=base f) rfl];exact gq hP (λw=>⟨_,stepG_ret'⟩) (lK _)
 split at h
 grind
 grind
 cases h;cases h
theorem TQ{S:ai}{v:DV}{b:Bool}(h:(kT S v).strip=.val (.bool b)):v=.val (.bool b):=by unfold kT at h;split at h;split at h;split at h<;>simp[DV.strip,DV.dL]at h;simp[DV.strip,DV.dL]at h;cases v<;>simp_all [DV.strip,DV.dL]
theorem OT{S:ai}{v:DV}{b:Bool}(h:(uV S v).strip=.val (.bool b)):v=.val (.bool b):=by
 have e:(∀l,v≠.agg l)->(∀l,v≠.tup l)->uV S v=kT S v:=λa b=>by cases v<;>first|rfl|exact(a _ rfl).elim|exact(b _ rfl).elim
 by_cases ha:∃l,v=.agg l;obtain⟨l,rfl⟩:=ha;simp[uV,uv,DV.strip,DV.dL]at h;by_cases ht:∃l,v=.tup l;obtain⟨l,rfl⟩:=ht;simp[uV,DV.strip]at h;rw[e (λl h=>ha ⟨l,h⟩) (λl h=>ht ⟨l,h⟩)]at h;exact TQ h
theorem Xx(hP:Plain P)(hm:P.follows .mixedOrders=true)(fN:kM P ty){bI:b9}(ht:∀aa,u6 P aa bI){L n:Nat}{f:FuncId}{args:cj}{b:Bool}(h0:bI f args=none)(hi:P.inits.idxOf? f=none)
  (h:kV bI (dI P ty bI L (n+1)).1 f args=some (.val (.bool b))) {vals:Array Value} (hR:Rel x) (hS:x.S=[]) (ha:ig x args vals):
  jh P (CY P λv w=>v=.bool b/\u7 x.w w) () (G (Frame.enter P f vals .normal) []) x.w:=by
 unfold kV at h;rw[h0]at h;simp only at h;split at h;rename_i v S' h1;split at h;simp only[aG]at h;have hv:v=.val (.bool b):=OT h;subst hv;simp only[dI]at h1;split at h1;rename_i fn hf;obtain⟨ihc,ihy⟩:=EN (aa:=CY P λv w=>v=.bool b/\u7 x.w w) hP hm fN (ht _) (L:=L) n;have Np:=Og (ht _) ihc;have mW:∀id ops draw,y9 P (CY P λv w=>v=.bool b/\u7 x.w w) ty (kV bI (dI P ty bI L n).1) (dI P ty bI L n).1 (dI P ty bI L n).2 id ops draw:=λid ops draw=>WA hP hm fN ihc Np ihy id ops draw;refine Zh (u:=.bool b) hP fN ihc mW hf hi h1 hR hS ha λy u' q1 q2 q3 q4=>?_;cases q4;exact⟨rfl,rfl,XG q3 hS⟩;cases h1;cases h;cases h
end Go.Di
