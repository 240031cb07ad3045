import Derived.Test.YtedcgbkilmlbhaaPk38
import Derived.Test.YtedcgbkilmlbhaaPk06
import Derived.Test.YtedcgbkilmlbhaaPk26
set_option maxRecDepth 1000000
namespace Go.Di
open Go Go.Conc Go.Co Go.Proofs
variable {aa:Machine->Trace->Prop} {x:Cx}
def qw:bS:=λf args=>match f,args with
 |33,[a,b]=>Il a b
 |83,[a]=>Y7 a
 |67,[a]=>adp a
 |_,_=>none
theorem jX:uJ Try.prog aa qw:=by
 intro f args v h _ _ x vals hR ha;unfold qw at h;split at h;.exact Mb h hR ha
 .exact RJ h hR ha
 .exact SH h hR ha
 cases h
theorem ad4(P:Program)(g:Tmp->TypeId->Nat):kG P ⟨TS P,g⟩:=λ_ _ h=>h
theorem abt:kG Try.prog TyH:=ad4 _ _
theorem G7:Try.prog.follows .mixedOrders=true:=by kernel_rfl
mutual
def DV.eqb:DV->DV->Bool
 |.val (.int k n),.val (.int k' n')=>decide (k=k')&&decide (n=n')
 |.val (.bool b),.val (.bool b')=>b==b'
 |.agg l,.agg l'=>DV.J9 l l'
 |.tup l,.tup l'=>DV.J9 l l'
 |.sl l none ⟨f,i⟩,.sl l' none ⟨f',i'⟩=>f==f'&&decide (i=i')&&DV.J9 l l'
 |_,_=>false
def DV.J9:List DV->List DV->Bool
 |[],[]=>true
 |d::l,d'::l'=>DV.eqb d d'&&DV.J9 l l'
 |_,_=>false
end
mutual
theorem VS:∀d d':DV,DV.eqb d d'=true->d=d':=by
 intro d d' h;unfold DV.eqb at h;split at h;.simp at h;obtain⟨rfl,rfl⟩:=h;rfl
 .simp at h;subst h;rfl
 .rw[zf _ _ h]
 .rw[zf _ _ h]
 .simp at h;obtain⟨⟨rfl,rfl⟩,h⟩:=h;rw[zf _ _ h]
 cases h
theorem zf:∀l l':List DV,DV.J9 l l'=true->l=l':=by
 intro l l' h;unfold DV.J9 at h;split at h;.rfl
 .simp at h;rw[VS _ _ h.1,zf _ _ h.2]
 cases h
end
abbrev Row:=FuncId×List DV×DV
def more(bM:bS)(rows:List Row):bS:=λf args=>match rows.find? (λr=>decide (r.1=f)&&DV.J9 r.2.1 args)with
 |some r=>some r.2.2
 |none=>bM f args
def QL(P:Program)(aa:Machine->Trace->Prop)(r:Row):Prop:=
 ∀x vals,Rel x->iw x r.2.1 vals->fL P aa x r.1 vals λy u=>y.S=x.S/\Rel y/\bU x y/\RV y r.2.2 u
theorem P7{P:Program}{bM:bS}{rows:List Row}(ht:uJ P aa bM)(h:∀r∈rows,QL P aa r):uJ P aa (more bM rows):=by
 intro f args v h1 hp hv x vals hR ha;unfold more at h1;split at h1;.rename_i r hr;cases h1;have h2:=List.find?_some hr;simp only[aA,cC]at h2;obtain⟨rfl,h3⟩:=h2;cases zf _ _ h3;exact h r (List.mem_of_find?_eq_some hr) x vals hR ha
 exact ht f args v h1 hp hv x vals hR ha
noncomputable def OB (bM:bS)(L n:Nat)(r:Row):Bool:=r.2.1.all DV.pure&&match mc bM (ej Try.prog TyH bM L n).1 r.1 r.2.1 with
 |some v=>DV.eqb r.2.2 v
 |none=>false
theorem eS{bM:bS}{L n:Nat}{r:Row}(ht:uJ Try.prog aa bM)(h:OB bM L n r=true):QL Try.prog aa r:=by
 unfold OB at h;simp only[aA]at h;obtain⟨hp,h⟩:=h;split at h;.rename_i v hv;cases VS _ _ h;exact(Ny ht (EG lP G7 abt ht n).1 r.1 r.2.1 _ hv hp).2
 cases h
abbrev ii(n:Int):DV:=.val (.int .i64 n)
abbrev bb(b:Bool):DV:=.val (.bool b)
abbrev sn:SF:=⟨false,some false⟩
abbrev su:SF:=⟨false,none⟩
abbrev va:DV:=(.agg [(.sl [(ii (0)),(ii (0)),(ii (0)),(ii (0))] none sn),(.sl [(ii (1)),(ii (2)),(ii (1)),(ii (3))] none sn),(ii (0)),(.sl [(ii (0))] none sn)])
abbrev vb:DV:=(.agg [(.sl [(ii (4)),(ii (3)),(ii (4)),(ii (2))] none sn),(.sl [(ii (0)),(ii (1)),(ii (0)),(ii (0))] none sn),(ii (0)),(.sl [(ii (0)),(ii (1)),(ii (2)),(ii (3))] none sn)])
abbrev abB:Row:=(36,[],va)
abbrev abA:Row:=(37,[],vb)
abbrev abG:Row:=(38,[va,vb,(ii (0))],(.tup [(.agg [(ii (5)),(ii (5))]),(ii (0))]))
abbrev abH:Row:=(11,[(.sl [va,vb] none sn),(ii (0)),(ii (1))],(.tup [(.sl [(.agg [(ii (0)),(ii (0)),(ii (0))]),(.agg [(ii (0)),(ii (2)),(ii (-1))])] none su),(ii (0))]))
abbrev abI:Row:=(10,[(.sl [va,vb] none sn),(ii (0)),(ii (1))],(.tup [(ii (2)),(ii (0))]))
abbrev abF:Row:=(16,[(.sl [va,vb] none sn)],(.tup [(.sl [(.agg [(ii (0)),(ii (0)),(ii (0))]),(.agg [(ii (1)),(ii (0)),(ii (0))])] none su),(ii (0))]))
abbrev abC:Row:=(23,[(.sl [va,vb] none sn),(.sl [(.agg [(ii (0)),(ii (0)),(ii (0))]),(.agg [(ii (1)),(ii (0)),(ii (1))])] none sn)],(.tup [(ii (1)),(ii (0))]))
abbrev abE:Row:=(17,[(.sl [va,vb] none sn)],(.tup [(.sl [(.sl [(ii (0)),(ii (0))] none sn),(.sl [(ii (1)),(ii (1))] none sn)] none su),(ii (0))]))
abbrev abz:Row:=(39,[(.sl [(.agg [(ii (0)),(ii (0)),(ii (0))]),(.agg [(ii (0)),(ii (2)),(ii (-1))])] none su),(.sl [(.agg [(ii (0)),(ii (0)),(ii (0))]),(.agg [(ii (0)),(ii (2)),(ii (-1))])] none sn)],(bb true))
abbrev abD:Row:=(22,[(.sl [(.agg [(ii (0)),(ii (0)),(ii (0))]),(.agg [(ii (1)),(ii (0)),(ii (0))])] none su),(.sl [(.agg [(ii (0)),(ii (0)),(ii (0))]),(.agg [(ii (1)),(ii (0)),(ii (0))])] none sn)],(bb true))
abbrev aby:Row:=(40,[(.sl [(.sl [(ii (0)),(ii (0))] none sn),(.sl [(ii (1)),(ii (1))] none sn)] none su),(.sl [(.sl [(ii (0)),(ii (0))] none sn),(.sl [(ii (1)),(ii (1))] none sn)] none sn)],(bb true))
theorem af9:OB qw 100 40 abB=true:=by decide+kernel
theorem af8:OB qw 100 40 abA=true:=by decide+kernel
theorem age:OB qw 100 40 abG=true:=by decide+kernel
theorem agh:OB qw 100 40 abH=true:=by decide+kernel
theorem agi:OB qw 100 40 abI=true:=by decide+kernel
theorem agd:OB qw 100 40 abF=true:=by decide+kernel
theorem aga:OB qw 100 40 abC=true:=by decide+kernel
theorem agc:OB qw 100 40 abE=true:=by decide+kernel
theorem af7:OB qw 100 40 abz=true:=by decide+kernel
theorem agb:OB qw 100 40 abD=true:=by decide+kernel
theorem af6:OB qw 100 40 aby=true:=by decide+kernel
abbrev Nj:List Row:=[abB,abA,abG,abH,abI,abF,abC,abE,abz,abD,aby]
theorem agf:OB (more qw Nj) 100 2 (13,[],bb true)=true:=by decide+kernel
theorem Wi:uJ Try.prog aa (more qw Nj):=P7 jX (by
 intro r hr;simp only[Nj,bz,fq,or_false]at hr;rcases hr with rfl|rfl|rfl|rfl|rfl|rfl|rfl|rfl|rfl|rfl|rfl;.exact eS jX af9
 .exact eS jX af8
 .exact eS jX age
 .exact eS jX agh
 .exact eS jX agi
 .exact eS jX agd
 .exact eS jX aga
 .exact eS jX agc
 .exact eS jX af7
 .exact eS jX agb
 exact eS jX af6)
def J3:bS:=more qw [(13,[],bb true)]
theorem ZY:uJ Try.prog aa J3:=P7 jX (by intro r hr;simp only[bz,fq,or_false]at hr;subst hr;exact eS Wi agf)
end Go.Di
namespace Go.Di
open Go Go.Conc Go.Co Go.Proofs
variable {P:Program} {ty:fP} {x:Cx} {aI:bS} {call:bt} {yf:ew}
structure uK (W w:World):Prop where
 os:w.os=W.os
 output:w.output=W.output
 block:∀k,k<W.heap.size->w.heap[k]? =W.heap[k]?
theorem Ws{x y:Cx}(M:bU x y)(hS:x.S=[]):uK x.w y.w:=
 ⟨M.env.1,M.env.2,λk hk=>M.old k hk λi hi=>absurd (hS▸hi) (gU i)⟩
theorem uK.at {W w:World}(h:uK W w)(d:Nat):uK W (w.at d):=⟨h.os,h.output,h.block⟩
theorem Ah{Post:Value->World->Prop}(hP:Plain P)(fG:kG P ty){x0:Cx}{b:Frame}{todo:List Item}{fn:Func}{env:List DV}{l:List DV}(hb:b.kind=.normal)(hf:P.funcs[b.fn]? =some fn)(hi:P.inits.idxOf? b.fn=none){Sr:ai}{u:Value}:
  ∀(ds:List Nat){a:Act}{x:Cx},x.S=Sr->Rel x->bU x0 x->iw x env a.tmps->uN x0.S.length x ds a.defers->uw ty env Sr fn.results.toList=some l->
   (∀y v,y.S=Sr->Rel y->bU x0 y->RV y (oneOf l) v->v=u/\Post u y.w)->jk P (CN P Post) () (G {b.at a todo with mode:=.returning} []) x.w
 |[],a,x,hS,hR,hM,he,hd,hr,hn=>by
  have MI:a.defers=[]:=hd.1;have key:∀n,(results fn a.tmps).run P (x.w.at n)=.ok u (x.w.at n)/\Post u (x.w.at n):=λn=>by obtain⟨v,h1,h2⟩:=EZ (x:=x.dr n) fG (hR.dr n) (he.mono (fJ x n)) (l:=l) (by show uw ty env x.S _=_;rw[hS];exact hr);obtain⟨rfl,h3⟩:=hn (x.dr n) v hS (hR.dr n) (hM.trans (fJ x n)) h2;exact⟨h1,h3⟩
  exact aeF (v:=u) (λd=>⟨rfl,MI,hb,fn,hf,(key d).1⟩) hi λd=>(key d).2
 |id::ds,a,x,hS,hR,hM,he,hd,hr,hn=>by
  obtain⟨q1,q2,q3⟩:=hd;obtain⟨r1,r2,r3⟩:=q3 id (by simp);refine jq hP λn=>?_;have mS:=hR.dr n;have hM':=hM.trans (fJ x n);obtain⟨t1,t2,t3⟩:=Pn (x:=x.dr n) hM' mS r1 r2;have hg:=jO (P:=P) (w:=x.w.at n) (show(x.w.at n).heap[x.μ id]? =_ from r3) (by simp);have hs:=lF (P:=P) (w:=x.w.at n) (o:=.deferred none) (show(x.w.at n).heap[x.μ id]? =_ from r3) (by simp);have O1:(Instr.takeDeferred (x.μ id)).run P (x.w.at n)=.ok [] (cK (x.w.at n) (x.μ id) (.deferred none)):=by simp only[Instr.takeDeferred,Sem.run_bind,hg,Result.andThen_ok,hs,Sem.run_pure]
  obtain⟨es,hst⟩:=PK (P:=P) (b:=b) (a:=a) (todo:=todo) (cs:=[]) (ds:=ds.map λid=>{target:=.collected (x.μ id),args:=#[]}) (by rw[q1];rfl) O1;refine⟨_,_,_,es,hst,?_⟩;have Fu:=List.nodup_cons.1 q2;exact Ah hP fG hb hf hi ds (x:={x.dr n with w:=cK (x.w.at n) (x.μ id) (.deferred none)}) (a:={a with defers:=ds.map λid=>{target:=.collected (x.μ id),args:=#[]}}) hS t1 t2 ⟨he.1,λj c hc=>t3 _ _ (RV.mono (fJ x n) (he.2 j c hc))⟩
   ⟨rfl,Fu.2,λi hi=>by obtain⟨u1,u2,u3⟩:=q3 i (by simp[hi]);have hne:x.μ i≠x.μ id:=λe=>Fu.1 (hR.inj i id (bn u2 (by simp)) (bn r2 (by simp)) e▸hi);exact⟨u1,u2,(ia _ _ _ hne).trans u3⟩⟩ hr hn
theorem Ya{Post:Value->World->Prop}(hP:Plain P)(fG:kG P ty)(hc:iC P (CN P Post) call)(mR:∀id ops draw,yT P (CN P Post) ty aI call yf id ops draw){L:Nat}{f:FuncId}{fn:Func}(hf:P.funcs[f]? =some fn)(hi:P.inits.idxOf? f=none)
  {args:List DV} {S S':ai} {v:DV} (h:uH P ty aI call yf L f fn args S=some (v,S'))
  {vals:Array Value} (hR:Rel x) (hS:x.S=S) (ha:iw x args vals) {u:Value} (hu:∀y u',y.S=S'->Rel y->bU x y->RV y v u'->u'=u/\Post u y.w):jk P (CN P Post) () (G (Frame.enter P f vals .normal) []) x.w:=by
 subst hS;unfold uH at h;split at h
 .rename_i c hb;rw[enter_at vals hf hb,<-Frame.atR_of_none (b:=base f) rfl];have he:iw x (args++List.replicate (fn.ntmps-args.length) bE) (vals++Array.replicate (fn.ntmps-vals.size) undef):=by
   refine ny ha ⟨by simp[ha.1],λj c hc=>?_⟩;rw[qW]at hc;split at hc
   .rename_i hj;cases hc;have:j<fn.ntmps-vals.size:=by rw[ha.1];exact hj
    have e:(Array.replicate (fn.ntmps-vals.size) undef).getD j undef=undef:=by simp[bq,this]
    rw[e];exact .val rfl
   cases hc
  have key:∀e aK S1,cW P ty aI call yf L f false c (args++List.replicate (fn.ntmps-args.length) bE) x.S=some (e,aK,S1)->(e=.normal\/e=.ret)->(uw ty aK S1 fn.results.toList).map (λl=>(oneOf l,S1))=some (v,S')->
    jk P (CN P Post) () (G ((base f).atR {tmps:=vals++Array.replicate (fn.ntmps-vals.size) undef,defers:=[]} [.code c]) []) x.w:=by
   intro e aK S1 h1 he1 h2;simp only[af,ay]at h2;obtain⟨l,h3,rfl,rfl⟩:=h2;refine zU (n0:=x.S.length) (ds:=[]) (b:=base f) (cs:=[]) (jj:=false) hP hc (by simp[base]) rfl (λ_=>rfl) c (zH mR c) h1 hR he (Bw _ _) (aj _) λy a' iJ q1 q2 q3 q4 q5=>?_;have lE:∀todo,jk P (CN P Post) () (G {(base f).at a' todo with mode:=.returning} []) y.w:=λtodo=>
    Ah hP fG (x0:=x) (b:=base f) (env:=aK) (l:=l) (Sr:=S1) rfl hf hi iJ q1 q2 q3 q4 q5 h3 λz u r1 r2 r3 r4=>hu z u r1 r2 r3 r4
   rcases he1 with rfl|rfl;.show jk P (CN P Post) () (G ((base f).atR a' []) []) y.w;rw[Frame.atR_of_none (b:=base f) rfl];exact gl hP (λw=>⟨_,stepG_end⟩) (lE _)
   intro k';rw[Frame.atR_of_none (b:=base f) rfl];exact gl hP (λw=>⟨_,stepG_ret'⟩) (lE _)
  split at h;.rename_i aK S1 h1;exact key _ _ _ h1 (.inl rfl) h
  .rename_i aK S1 h1;exact key _ _ _ h1 (.inr rfl) h
  cases h
 cases h
theorem Sv{S:ai}{v:DV}{b:Bool}(h:(kO S v).strip=.val (.bool b)):v=.val (.bool b):=by
 unfold kO at h;split at h
 .split at h;.split at h<;>simp[DV.strip,DV.dF]at h
  simp[DV.strip,DV.dF]at h
 cases v<;>simp_all [DV.strip,DV.dF]
theorem N9{S:ai}{v:DV}{b:Bool}(h:(uB S v).strip=.val (.bool b)):v=.val (.bool b):=by
 have e:(∀l,v≠.agg l)->(∀l,v≠.tup l)->uB S v=kO S v:=λa b=>by cases v<;>first|rfl|exact(a _ rfl).elim|exact(b _ rfl).elim
 by_cases ha:∃l,v=.agg l;.obtain⟨l,rfl⟩:=ha;simp[uB,tO,DV.strip,DV.dF]at h
 by_cases ht:∃l,v=.tup l;.obtain⟨l,rfl⟩:=ht;simp[uB,DV.strip]at h
 rw[e (λl h=>ha ⟨l,h⟩) (λl h=>ht ⟨l,h⟩)]at h;exact Sv h
theorem Wd(hP:Plain P)(hm:P.follows .mixedOrders=true)(fG:kG P ty){bM:bS}(ht:∀aa,uJ P aa bM){L n:Nat}{f:FuncId}{args:List DV}{b:Bool}(h0:bM f args=none)(hi:P.inits.idxOf? f=none)
  (h:mc bM (ej P ty bM L (n+1)).1 f args=some (.val (.bool b))) {vals:Array Value} (hR:Rel x) (hS:x.S=[]) (ha:iw x args vals):
  jk P (CN P λv w=>v=.bool b/\uK x.w w) () (G (Frame.enter P f vals .normal) []) x.w:=by
 unfold mc at h;rw[h0]at h;simp only at h;split at h
 .rename_i v S' h1;split at h
  .simp only[aB]at h;have hv:v=.val (.bool b):=N9 h;subst hv;simp only[ej]at h1;split at h1;.rename_i fn hf;obtain⟨ihc,ihy⟩:=EG (aa:=CN P λv w=>v=.bool b/\uK x.w w) hP hm fG (ht _) (L:=L) n;have JO:=Ny (ht _) ihc;have mR:∀id ops draw,yT P (CN P λv w=>v=.bool b/\uK x.w w) ty (mc bM (ej P ty bM L n).1) (ej P ty bM L n).1 (ej P ty bM L n).2 id ops draw:=λid ops draw=>Vn hP hm fG ihc JO ihy id ops draw;refine Ya (u:=.bool b) hP fG ihc mR hf hi h1 hR hS ha λy u' q1 q2 q3 q4=>?_;cases q4;exact⟨rfl,rfl,Ws q3 hS⟩
   cases h1
  cases h
 cases h
end Go.Di
