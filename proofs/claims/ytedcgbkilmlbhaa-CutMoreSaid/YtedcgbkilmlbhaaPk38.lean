import Derived.Test.YtedcgbkilmlbhaaPk37
import Derived.Test.YtedcgbkilmlbhaaPk06
import Derived.Test.YtedcgbkilmlbhaaPk25
set_option maxRecDepth 1000000
namespace Go.Di
open Go Go.Conc Go.Co Go.Proofs
variable {aa:Machine->Trace->Prop} {x:Cx}
def oF:bR:=λf args=>match f,args with
 |33,[a,b]=>Ib a b
 |83,[a]=>YW a
 |67,[a]=>Zh a
 |_,_=>none
theorem jU:uD Try.prog aa oF:=by
 intro f args v h _ _ x vals hR ha;unfold oF at h;split at h;.exact LN h hR ha
 .exact Rt h hR ha
 .exact Sn h hR ha
 cases h
theorem adW(P:Program)(g:Tmp->TypeId->Nat):kC P ⟨Tz P,g⟩:=λ_ _ h=>h
theorem abn:kC Try.prog TyH:=adW _ _
theorem GW:Try.prog.follows .mixedOrders=true:=by kernel_rfl
mutual
def DV.eqb:DV->DV->Bool
 |.val (.int k n),.val (.int k' n')=>decide (k=k')&&decide (n=n')
 |.val (.bool b),.val (.bool b')=>b==b'
 |.agg l,.agg l'=>DV.JU l l'
 |.tup l,.tup l'=>DV.JU l l'
 |.sl l none ⟨f,i⟩,.sl l' none ⟨f',i'⟩=>f==f'&&decide (i=i')&&DV.JU l l'
 |_,_=>false
def DV.JU:List DV->List DV->Bool
 |[],[]=>true
 |d::l,d'::l'=>DV.eqb d d'&&DV.JU l l'
 |_,_=>false
end
mutual
theorem VA:∀d d':DV,DV.eqb d d'=true->d=d':=by
 intro d d' h;unfold DV.eqb at h;split at h;.simp at h;obtain⟨rfl,rfl⟩:=h;rfl
 .simp at h;subst h;rfl
 .rw[yY _ _ h]
 .rw[yY _ _ h]
 .simp at h;obtain⟨⟨rfl,rfl⟩,h⟩:=h;rw[yY _ _ h]
 cases h
theorem yY:∀l l':List DV,DV.JU l l'=true->l=l':=by
 intro l l' h;unfold DV.JU at h;split at h;.rfl
 .simp at h;rw[VA _ _ h.1,yY _ _ h.2]
 cases h
end
abbrev Row:=FuncId×List DV×DV
def more(bH:bR)(rows:List Row):bR:=λf args=>match rows.find? (λr=>decide (r.1=f)&&DV.JU r.2.1 args)with
 |some r=>some r.2.2
 |none=>bH f args
def Qu(P:Program)(aa:Machine->Trace->Prop)(r:Row):Prop:=
 ∀x vals,Rel x->ia x r.2.1 vals->fJ P aa x r.1 vals λy u=>y.S=x.S/\Rel y/\bV x y/\RV y r.2.2 u
theorem PL{P:Program}{bH:bR}{rows:List Row}(ht:uD P aa bH)(h:∀r∈rows,Qu P aa r):uD P aa (more bH rows):=by
 intro f args v h1 hp hv x vals hR ha;unfold more at h1;split at h1;.rename_i r hr;cases h1;have h2:=List.find?_some hr;simp only[aC,cq]at h2;obtain⟨rfl,h3⟩:=h2;cases yY _ _ h3;exact h r (List.mem_of_find?_eq_some hr) x vals hR ha
 exact ht f args v h1 hp hv x vals hR ha
noncomputable def Oj (bH:bR)(L n:Nat)(r:Row):Bool:=r.2.1.all DV.pure&&match kJ bH (dx Try.prog TyH bH L n).1 r.1 r.2.1 with
 |some v=>DV.eqb r.2.2 v
 |none=>false
theorem eO{bH:bR}{L n:Nat}{r:Row}(ht:uD Try.prog aa bH)(h:Oj bH L n r=true):Qu Try.prog aa r:=by
 unfold Oj at h;simp only[aC]at h;obtain⟨hp,h⟩:=h;split at h;.rename_i v hv;cases VA _ _ h;exact(Nh ht (Et lK GW abn ht n).1 r.1 r.2.1 _ hv hp).2
 cases h
abbrev ii(n:Int):DV:=.val (.int .i64 n)
abbrev bb(b:Bool):DV:=.val (.bool b)
abbrev sn:SF:=⟨false,some false⟩
abbrev su:SF:=⟨false,none⟩
abbrev va:DV:=(.agg [(.sl [(ii (0)),(ii (0)),(ii (0)),(ii (0))] none sn),(.sl [(ii (1)),(ii (2)),(ii (1)),(ii (3))] none sn),(ii (0)),(.sl [(ii (0))] none sn)])
abbrev vb:DV:=(.agg [(.sl [(ii (4)),(ii (3)),(ii (4)),(ii (2))] none sn),(.sl [(ii (0)),(ii (1)),(ii (0)),(ii (0))] none sn),(ii (0)),(.sl [(ii (0)),(ii (1)),(ii (2)),(ii (3))] none sn)])
abbrev abA:Row:=(36,[],va)
abbrev abz:Row:=(37,[],vb)
abbrev abF:Row:=(38,[va,vb,(ii (0))],(.tup [(.agg [(ii (5)),(ii (5))]),(ii (0))]))
abbrev abG:Row:=(11,[(.sl [va,vb] none sn),(ii (0)),(ii (1))],(.tup [(.sl [(.agg [(ii (0)),(ii (0)),(ii (0))]),(.agg [(ii (0)),(ii (2)),(ii (-1))])] none su),(ii (0))]))
abbrev abH:Row:=(10,[(.sl [va,vb] none sn),(ii (0)),(ii (1))],(.tup [(ii (2)),(ii (0))]))
abbrev abE:Row:=(16,[(.sl [va,vb] none sn)],(.tup [(.sl [(.agg [(ii (0)),(ii (0)),(ii (0))]),(.agg [(ii (1)),(ii (0)),(ii (0))])] none su),(ii (0))]))
abbrev abB:Row:=(23,[(.sl [va,vb] none sn),(.sl [(.agg [(ii (0)),(ii (0)),(ii (0))]),(.agg [(ii (1)),(ii (0)),(ii (1))])] none sn)],(.tup [(ii (1)),(ii (0))]))
abbrev abD:Row:=(17,[(.sl [va,vb] none sn)],(.tup [(.sl [(.sl [(ii (0)),(ii (0))] none sn),(.sl [(ii (1)),(ii (1))] none sn)] none su),(ii (0))]))
abbrev aby:Row:=(39,[(.sl [(.agg [(ii (0)),(ii (0)),(ii (0))]),(.agg [(ii (0)),(ii (2)),(ii (-1))])] none su),(.sl [(.agg [(ii (0)),(ii (0)),(ii (0))]),(.agg [(ii (0)),(ii (2)),(ii (-1))])] none sn)],(bb true))
abbrev abC:Row:=(22,[(.sl [(.agg [(ii (0)),(ii (0)),(ii (0))]),(.agg [(ii (1)),(ii (0)),(ii (0))])] none su),(.sl [(.agg [(ii (0)),(ii (0)),(ii (0))]),(.agg [(ii (1)),(ii (0)),(ii (0))])] none sn)],(bb true))
abbrev abx:Row:=(40,[(.sl [(.sl [(ii (0)),(ii (0))] none sn),(.sl [(ii (1)),(ii (1))] none sn)] none su),(.sl [(.sl [(ii (0)),(ii (0))] none sn),(.sl [(ii (1)),(ii (1))] none sn)] none sn)],(bb true))
theorem agb:Oj oF 100 40 abA=true:=by decide+kernel
theorem aga:Oj oF 100 40 abz=true:=by decide+kernel
theorem agh:Oj oF 100 40 abF=true:=by decide+kernel
theorem agj:Oj oF 100 40 abG=true:=by decide+kernel
theorem agk:Oj oF 100 40 abH=true:=by decide+kernel
theorem agf:Oj oF 100 40 abE=true:=by decide+kernel
theorem agc:Oj oF 100 40 abB=true:=by decide+kernel
theorem age:Oj oF 100 40 abD=true:=by decide+kernel
theorem af9:Oj oF 100 40 aby=true:=by decide+kernel
theorem agd:Oj oF 100 40 abC=true:=by decide+kernel
theorem af8:Oj oF 100 40 abx=true:=by decide+kernel
abbrev M4:List Row:=[abA,abz,abF,abG,abH,abE,abB,abD,aby,abC,abx]
theorem agi:Oj (more oF M4) 100 2 (13,[],bb true)=true:=by decide+kernel
theorem V3:uD Try.prog aa (more oF M4):=PL jU (by
 intro r hr;simp only[M4,bw,eB,or_false]at hr;rcases hr with rfl|rfl|rfl|rfl|rfl|rfl|rfl|rfl|rfl|rfl|rfl;.exact eO jU agb
 .exact eO jU aga
 .exact eO jU agh
 .exact eO jU agj
 .exact eO jU agk
 .exact eO jU agf
 .exact eO jU agc
 .exact eO jU age
 .exact eO jU af9
 .exact eO jU agd
 exact eO jU af8)
def Fy:bR:=more oF [(13,[],bb true)]
theorem ZO:uD Try.prog aa Fy:=PL jU (by intro r hr;simp only[bw,eB,or_false]at hr;subst hr;exact eO V3 agi)
end Go.Di
namespace Go.Di
open Go Go.Conc Go.Co Go.Proofs
variable {P:Program} {ty:fR} {x:Cx} {aK:bR} {call:bt} {yf:ej}
structure uE (W w:World):Prop where
 os:w.os=W.os
 output:w.output=W.output
 block:∀k,k<W.heap.size->w.heap[k]? =W.heap[k]?
theorem V7{x y:Cx}(M:bV x y)(hS:x.S=[]):uE x.w y.w:=
 ⟨M.env.1,M.env.2,λk hk=>M.old k hk λi hi=>absurd (hS▸hi) (gK i)⟩
theorem uE.at {W w:World}(h:uE W w)(d:Nat):uE W (w.at d):=⟨h.os,h.output,h.block⟩
theorem z7{Post:Value->World->Prop}(hP:Plain P)(fu:kC P ty){x0:Cx}{b:Frame}{todo:List Item}{fn:Func}{env:List DV}{l:List DV}(hb:b.kind=.normal)(hf:P.funcs[b.fn]? =some fn)(hi:P.inits.idxOf? b.fn=none){Sr:ai}{u:Value}:
  ∀(ds:List Nat){a:Act}{x:Cx},x.S=Sr->Rel x->bV x0 x->ia x env a.tmps->uH x0.S.length x ds a.defers->tU ty env Sr fn.results.toList=some l->
   (∀y v,y.S=Sr->Rel y->bV x0 y->RV y (oneOf l) v->v=u/\Post u y.w)->jf P (Cz P Post) () (G {b.at a todo with mode:=.returning} []) x.w
 |[],a,x,hS,hR,hM,he,hd,hr,hn=>by
  have Mu:a.defers=[]:=hd.1;have key:∀n,(results fn a.tmps).run P (x.w.at n)=.ok u (x.w.at n)/\Post u (x.w.at n):=λn=>by obtain⟨v,h1,h2⟩:=EK (x:=x.dr n) fu (hR.dr n) (he.mono (fE x n)) (l:=l) (by show tU ty env x.S _=_;rw[hS];exact hr);obtain⟨rfl,h3⟩:=hn (x.dr n) v hS (hR.dr n) (hM.trans (fE x n)) h2;exact⟨h1,h3⟩
  exact aeA (v:=u) (λd=>⟨rfl,Mu,hb,fn,hf,(key d).1⟩) hi λd=>(key d).2
 |id::ds,a,x,hS,hR,hM,he,hd,hr,hn=>by
  obtain⟨q1,q2,q3⟩:=hd;obtain⟨r1,r2,r3⟩:=q3 id (by simp);refine jj hP λn=>?_;have mP:=hR.dr n;have hM':=hM.trans (fE x n);obtain⟨t1,t2,t3⟩:=O2 (x:=x.dr n) hM' mP r1 r2;have hg:=jI (P:=P) (w:=x.w.at n) (show(x.w.at n).heap[x.μ id]? =_ from r3) (by simp);have hs:=lB (P:=P) (w:=x.w.at n) (o:=.deferred none) (show(x.w.at n).heap[x.μ id]? =_ from r3) (by simp);have OI:(Instr.takeDeferred (x.μ id)).run P (x.w.at n)=.ok [] (cE (x.w.at n) (x.μ id) (.deferred none)):=by simp only[Instr.takeDeferred,Sem.run_bind,hg,Result.andThen_ok,hs,Sem.run_pure]
  obtain⟨es,hst⟩:=Pq (P:=P) (b:=b) (a:=a) (todo:=todo) (cs:=[]) (ds:=ds.map λid=>{target:=.collected (x.μ id),args:=#[]}) (by rw[q1];rfl) OI;refine⟨_,_,_,es,hst,?_⟩;have Fe:=List.nodup_cons.1 q2;exact z7 hP fu hb hf hi ds (x:={x.dr n with w:=cE (x.w.at n) (x.μ id) (.deferred none)}) (a:={a with defers:=ds.map λid=>{target:=.collected (x.μ id),args:=#[]}}) hS t1 t2 ⟨he.1,λj c hc=>t3 _ _ (RV.mono (fE x n) (he.2 j c hc))⟩
   ⟨rfl,Fe.2,λi hi=>by obtain⟨u1,u2,u3⟩:=q3 i (by simp[hi]);have hne:x.μ i≠x.μ id:=λe=>Fe.1 (hR.inj i id (bk u2 (by simp)) (bk r2 (by simp)) e▸hi);exact⟨u1,u2,(gQ _ _ _ hne).trans u3⟩⟩ hr hn
theorem XY{Post:Value->World->Prop}(hP:Plain P)(fu:kC P ty)(hc:ir P (Cz P Post) call)(mN:∀id ops draw,yJ P (Cz P Post) ty aK call yf id ops draw){L:Nat}{f:FuncId}{fn:Func}(hf:P.funcs[f]? =some fn)(hi:P.inits.idxOf? f=none)
  {args:List DV} {S S':ai} {v:DV} (h:tN P ty aK call yf L f fn args S=some (v,S'))
  {vals:Array Value} (hR:Rel x) (hS:x.S=S) (ha:ia x args vals) {u:Value} (hu:∀y u',y.S=S'->Rel y->bV x y->RV y v u'->u'=u/\Post u y.w):jf P (Cz P Post) () (G (Frame.enter P f vals .normal) []) x.w:=by
 subst hS;unfold tN at h;split at h
 .rename_i c hb;rw[enter_at vals hf hb,<-Frame.atR_of_none (b:=base f) rfl];have he:ia x (args++List.replicate (fn.ntmps-args.length) bF) (vals++Array.replicate (fn.ntmps-vals.size) undef):=by
   refine nt ha ⟨by simp[ha.1],λj c hc=>?_⟩;rw[nK]at hc;split at hc
   .rename_i hj;cases hc;have:j<fn.ntmps-vals.size:=by rw[ha.1];exact hj
    have e:(Array.replicate (fn.ntmps-vals.size) undef).getD j undef=undef:=by simp[bz,this]
    rw[e];exact .val rfl
   cases hc
  have key:∀e aL S1,cU P ty aK call yf L f false c (args++List.replicate (fn.ntmps-args.length) bF) x.S=some (e,aL,S1)->(e=.normal\/e=.ret)->(tU ty aL S1 fn.results.toList).map (λl=>(oneOf l,S1))=some (v,S')->
    jf P (Cz P Post) () (G ((base f).atR {tmps:=vals++Array.replicate (fn.ntmps-vals.size) undef,defers:=[]} [.code c]) []) x.w:=by
   intro e aL S1 h1 he1 h2;simp only[af,az]at h2;obtain⟨l,h3,rfl,rfl⟩:=h2;refine zH (n0:=x.S.length) (ds:=[]) (b:=base f) (cs:=[]) (jd:=false) hP hc (by simp[base]) rfl (λ_=>rfl) c (zx mN c) h1 hR he (Be _ _) (ak _) λy a' iC q1 q2 q3 q4 q5=>?_;have lz:∀todo,jf P (Cz P Post) () (G {(base f).at a' todo with mode:=.returning} []) y.w:=λtodo=>
    z7 hP fu (x0:=x) (b:=base f) (env:=aL) (l:=l) (Sr:=S1) rfl hf hi iC q1 q2 q3 q4 q5 h3 λz u r1 r2 r3 r4=>hu z u r1 r2 r3 r4
   rcases he1 with rfl|rfl;.show jf P (Cz P Post) () (G ((base f).atR a' []) []) y.w;rw[Frame.atR_of_none (b:=base f) rfl];exact gd hP (λw=>⟨_,stepG_end⟩) (lz _)
   intro k';rw[Frame.atR_of_none (b:=base f) rfl];exact gd hP (λw=>⟨_,stepG_ret'⟩) (lz _)
  split at h;.rename_i aL S1 h1;exact key _ _ _ h1 (.inl rfl) h
  .rename_i aL S1 h1;exact key _ _ _ h1 (.inr rfl) h
  cases h
 cases h
theorem Sa{S:ai}{v:DV}{b:Bool}(h:(kI S v).strip=.val (.bool b)):v=.val (.bool b):=by
 unfold kI at h;split at h
 .split at h;.split at h<;>simp[DV.strip,DV.dA]at h
  simp[DV.strip,DV.dA]at h
 cases v<;>simp_all [DV.strip,DV.dA]
theorem NV{S:ai}{v:DV}{b:Bool}(h:(uu S v).strip=.val (.bool b)):v=.val (.bool b):=by
 have e:(∀l,v≠.agg l)->(∀l,v≠.tup l)->uu S v=kI S v:=λa b=>by cases v<;>first|rfl|exact(a _ rfl).elim|exact(b _ rfl).elim
 by_cases ha:∃l,v=.agg l;.obtain⟨l,rfl⟩:=ha;simp[uu,tJ,DV.strip,DV.dA]at h
 by_cases ht:∃l,v=.tup l;.obtain⟨l,rfl⟩:=ht;simp[uu,DV.strip]at h
 rw[e (λl h=>ha ⟨l,h⟩) (λl h=>ht ⟨l,h⟩)]at h;exact Sa h
theorem V0(hP:Plain P)(hm:P.follows .mixedOrders=true)(fu:kC P ty){bH:bR}(ht:∀aa,uD P aa bH){L n:Nat}{f:FuncId}{args:List DV}{b:Bool}(h0:bH f args=none)(hi:P.inits.idxOf? f=none)
  (h:kJ bH (dx P ty bH L (n+1)).1 f args=some (.val (.bool b))) {vals:Array Value} (hR:Rel x) (hS:x.S=[]) (ha:ia x args vals):
  jf P (Cz P λv w=>v=.bool b/\uE x.w w) () (G (Frame.enter P f vals .normal) []) x.w:=by
 unfold kJ at h;rw[h0]at h;simp only at h;split at h
 .rename_i v S' h1;split at h
  .simp only[aB]at h;have hv:v=.val (.bool b):=NV h;subst hv;simp only[dx]at h1;split at h1;.rename_i fn hf;obtain⟨ihc,ihy⟩:=Et (aa:=Cz P λv w=>v=.bool b/\uE x.w w) hP hm fu (ht _) (L:=L) n;have Fg:=Nh (ht _) ihc;have mN:∀id ops draw,yJ P (Cz P λv w=>v=.bool b/\uE x.w w) ty (kJ bH (dx P ty bH L n).1) (dx P ty bH L n).1 (dx P ty bH L n).2 id ops draw:=λid ops draw=>Vb hP hm fu ihc Fg ihy id ops draw;refine XY (u:=.bool b) hP fu ihc mN hf hi h1 hR hS ha λy u' q1 q2 q3 q4=>?_;cases q4;exact⟨rfl,rfl,V7 q3 hS⟩
   cases h1
  cases h
 cases h
end Go.Di
