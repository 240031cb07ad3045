import Derived.Test.YtedcgbkilmlbhaaGreatPk33
import Derived.Test.YtedcgbkilmlbhaaGreatPk05
import Derived.Test.YtedcgbkilmlbhaaGreatPk22
section
namespace Go.Di
open Go Go.Conc Go.Co Go.Proofs
variable {aa:Machine→Trace→Prop} {x:Cx}
def mj:bP:=fun f args=>match f,args with
 | 60,[a,b]=>DJ a b
 | 133,[a]=>SG a
 | 43,[a]=>SX a
 | _,_=>none
theorem iV:qO Tryz.prog aa mj:=by
 intro f args v h _ _ x vals hR ha
 unfold mj at h
 split at h
 ·exact GP h hR ha
 ·exact L8 h hR ha
 ·exact MR h hR ha
 ·cases h
theorem Yi (P:Program) (g:Tmp→TypeId→Nat):jl P ⟨NQ P,g⟩:=fun _ _ h=>h
theorem Vw:jl Tryz.prog TyH:=Yi _ _
theorem CN:Tryz.prog.follows .mixedOrders=true:=by kernel_rfl
mutual
def DV.eqb:DV→DV→Bool
 | .val (.int k n),.val (.int k' n')=>decide (k=k')&&decide (n=n')
 | .val (.bool b),.val (.bool b')=>b==b'
 | .agg l,.agg l'=>DV.Fo l l'
 | .gI l,.gI l'=>DV.Fo l l'
 | .sl l none ⟨f,i⟩,.sl l' none ⟨f',i'⟩=>f==f'&&decide (i=i')&&DV.Fo l l'
 | _,_=>false
def DV.Fo:List DV→List DV→Bool
 | [],[]=>true
 | d::l,d'::l'=>DV.eqb d d'&&DV.Fo l l'
 | _,_=>false
end
mutual
theorem Py:∀ d d':DV,DV.eqb d d'=true→d=d':=by
 intro d d' h
 unfold DV.eqb at h
 split at h
 ·simp at h; obtain⟨rfl,rfl⟩:=h; rfl
 ·simp at h; subst h; rfl
 ·rw[vz _ _ h]
 ·rw[vz _ _ h]
 ·simp at h; obtain⟨⟨rfl,rfl⟩,h⟩:=h; rw[vz _ _ h]
 ·cases h
theorem vz:∀ l l':List DV,DV.Fo l l'=true→l=l':=by
 intro l l' h
 unfold DV.Fo at h
 split at h
 ·rfl
 ·simp at h; rw[Py _ _ h.1,vz _ _ h.2]
 ·cases h
end
abbrev Row:=FuncId×List DV×DV
def more (bF:bP) (rows:List Row):bP:=fun f args=>match rows.find? (fun r=>decide (r.1=f)&&DV.Fo r.2.1 args) with
 | some r=>some r.2.2
 | none=>bF f args
def K9 (P:Program) (aa:Machine→Trace→Prop) (r:Row):Prop :=
 ∀ x vals,Rel x→gD x r.2.1 vals→eH P aa x r.1 vals fun y u=>y.S=x.S∧Rel y∧cr x y∧RV y r.2.2 u
theorem KA {P:Program} {bF:bP} {rows:List Row} (ht:qO P aa bF) (h:∀ r∈rows,K9 P aa r):qO P aa (more bF rows):=by
 intro f args v h1 hp hv x vals hR ha
 unfold more at h1
 split at h1
 ·rename_i r hr
  cases h1
  have h2:=List.find?_some hr
  simp only[aG,bI] at h2
  obtain⟨rfl,h3⟩:=h2
  cases vz _ _ h3
  exact h r (List.mem_of_find?_eq_some hr) x vals hR ha
 ·exact ht f args v h1 hp hv x vals hR ha
noncomputable def Jp (bF:bP) (L n:Nat) (r:Row):Bool:=r.2.1.all DV.pure&&match j6 bF (dG Tryz.prog TyH bF L n).1 r.1 r.2.1 with
 | some v=>DV.eqb r.2.2 v
 | none=>false
theorem dU {bF:bP} {L n:Nat} {r:Row} (ht:qO Tryz.prog aa bF) (h:Jp bF L n r=true):K9 Tryz.prog aa r:=by
 unfold Jp at h
 simp only[aG] at h
 obtain⟨hp,h⟩:=h
 split at h
 ·rename_i v hv
  cases Py _ _ h
  exact(Iq ht (AQ jS CN Vw ht n).1 r.1 r.2.1 _ hv hp).2
 ·cases h
abbrev ii (n:Int):DV := .val (.int .i64 n)
abbrev bb (b:Bool):DV := .val (.bool b)
abbrev sn:SF:=⟨false,some false⟩
abbrev su:SF:=⟨false,none⟩
abbrev va:DV:=(.agg [(.sl [(ii (0)),(ii (0)),(ii (0)),(ii (0))] none sn),(.sl [(ii (1)),(ii (2)),(ii (1)),(ii (3))] none sn),(ii (0)),(.sl [(ii (0))] none sn)])
abbrev vb:DV:=(.agg [(.sl [(ii (4)),(ii (3)),(ii (4)),(ii (2))] none sn),(.sl [(ii (0)),(ii (1)),(ii (0)),(ii (0))] none sn),(ii (0)),(.sl [(ii (0)),(ii (1)),(ii (2)),(ii (3))] none sn)])
abbrev VG:Row:=(56,[],va)
abbrev VF:Row:=(57,[],vb)
abbrev VM:Row:=(55,[va,vb,(ii (0))],(.gI [(.agg [(ii (5)),(ii (5))]),(ii (0))]))
abbrev VO:Row:=(17,[(.sl [va,vb] none sn),(ii (0)),(ii (1))],(.gI [(.sl [(.agg [(ii (0)),(ii (0)),(ii (0))]),(.agg [(ii (0)),(ii (2)),(ii (-1))])] none su),(ii (0))]))
abbrev VP:Row:=(19,[(.sl [va,vb] none sn),(ii (0)),(ii (1))],(.gI [(ii (2)),(ii (0))]))
abbrev VL:Row:=(30,[(.sl [va,vb] none sn)],(.gI [(.sl [(.agg [(ii (0)),(ii (0)),(ii (0))]),(.agg [(ii (1)),(ii (0)),(ii (0))])] none su),(ii (0))]))
abbrev VH:Row:=(33,[(.sl [va,vb] none sn),(.sl [(.agg [(ii (0)),(ii (0)),(ii (0))]),(.agg [(ii (1)),(ii (0)),(ii (1))])] none sn)],(.gI [(ii (1)),(ii (0))]))
abbrev VK:Row:=(37,[(.sl [va,vb] none sn)],(.gI [(.sl [(.sl [(ii (0)),(ii (0))] none sn),(.sl [(ii (1)),(ii (1))] none sn)] none su),(ii (0))]))
abbrev VE:Row:=(21,[(.sl [(.agg [(ii (0)),(ii (0)),(ii (0))]),(.agg [(ii (0)),(ii (2)),(ii (-1))])] none su),(.sl [(.agg [(ii (0)),(ii (0)),(ii (0))]),(.agg [(ii (0)),(ii (2)),(ii (-1))])] none sn)],(bb true))
abbrev VJ:Row:=(32,[(.sl [(.agg [(ii (0)),(ii (0)),(ii (0))]),(.agg [(ii (1)),(ii (0)),(ii (0))])] none su),(.sl [(.agg [(ii (0)),(ii (0)),(ii (0))]),(.agg [(ii (1)),(ii (0)),(ii (0))])] none sn)],(bb true))
abbrev VD:Row:=(24,[(.sl [(.sl [(ii (0)),(ii (0))] none sn),(.sl [(ii (1)),(ii (1))] none sn)] none su),(.sl [(.sl [(ii (0)),(ii (0))] none sn),(.sl [(ii (1)),(ii (1))] none sn)] none sn)],(bb true))
set_option maxRecDepth 1000000
theorem abb:Jp mj 100 40 VG=true:=by decide +kernel
theorem aba:Jp mj 100 40 VF=true:=by decide +kernel
theorem abg:Jp mj 100 40 VM=true:=by decide +kernel
theorem abi:Jp mj 100 40 VO=true:=by decide +kernel
theorem abj:Jp mj 100 40 VP=true:=by decide +kernel
theorem abf:Jp mj 100 40 VL=true:=by decide +kernel
theorem abc:Jp mj 100 40 VH=true:=by decide +kernel
theorem abe:Jp mj 100 40 VK=true:=by decide +kernel
theorem aa9:Jp mj 100 40 VE=true:=by decide +kernel
theorem abd:Jp mj 100 40 VJ=true:=by decide +kernel
theorem aa8:Jp mj 100 40 VD=true:=by decide +kernel
abbrev Ic:List Row:=[VG,VF,VM,VO,VP,VL,VH,VK,VE,VJ,VD]
theorem abh:Jp (more mj Ic) 100 2 (12,[],bb true)=true:=by decide +kernel
theorem PX:qO Tryz.prog aa (more mj Ic):=KA iV (by
 intro r hr
 simp only[Ic,bH,eu,or_false] at hr
 rcases hr with rfl | rfl | rfl | rfl | rfl | rfl | rfl | rfl | rfl | rfl | rfl
 ·exact dU iV abb
 ·exact dU iV aba
 ·exact dU iV abg
 ·exact dU iV abi
 ·exact dU iV abj
 ·exact dU iV abf
 ·exact dU iV abc
 ·exact dU iV abe
 ·exact dU iV aa9
 ·exact dU iV abd
 ·exact dU iV aa8)
def zD:bP:=more mj [(12,[],bb true)]
theorem TF:qO Tryz.prog aa zD:=KA iV (by
 intro r hr
 simp only[bH,eu,or_false] at hr
 subst hr
 exact dU PX abh)
end Go.Di
end
section
namespace Go.Di
open Go Go.Conc Go.Co Go.Proofs
variable {P:Program} {ty:gF} {x:Cx} {aI:bP} {call:bM} {yf:eW}
structure qP (W w:World):Prop where
 os:w.os=W.os
 output:w.output=W.output
 block:∀ k,k<W.heap.size→w.heap[k]? = W.heap[k]?
theorem P8 {x y:Cx} (M:cr x y) (hS:x.S=[]):qP x.w y.w :=
 ⟨M.env.1,M.env.2,fun k hk=>M.old k hk fun i hi=>absurd (hS▸hi) (fU i)⟩
theorem qP.at {W w:World} (h:qP W w) (d:Nat):qP W (w.at d):=⟨h.os,h.output,h.block⟩
theorem vZ {Post:Value→World→Prop} (hP:Plain P) (eC:jl P ty) {x0:Cx} {b:Frame} {todo:List Item} {fn:Func} {env:List DV} {l:List DV} (hb:b.kind = .normal) (hf:P.funcs[b.fn]? = some fn) (hi:P.inits.idxOf? b.fn=none) {Sr:av} {u:Value} :
  ∀ (ds:List Nat) {a:Act} {x:Cx},x.S=Sr→Rel x→cr x0 x→gD x env a.tmps→qS x0.S.length x ds a.defers→qJ ty env Sr fn.results.toList=some l →
   (∀ y v,y.S=Sr→Rel y→cr x0 y→RV y (oneOf l) v→v=u∧Post u y.w)→ia P (yH P Post) () (G { b.at a todo with mode := .returning } []) x.w
 | [],a,x,hS,hR,hM,he,hd,hr,hn=>by
  have HJ:a.defers=[]:=hd.1
  have key:∀ n,(results fn a.tmps).run P (x.w.at n) = .ok u (x.w.at n)∧Post u (x.w.at n):=fun n=>by
   obtain⟨v,h1,h2⟩:=A6 (x:=x.dr n) eC (hR.dr n) (he.mono (eE x n)) (l:=l) (by show qJ ty env x.S _=_; rw[hS]; exact hr)
   obtain⟨rfl,h3⟩:=hn (x.dr n) v hS (hR.dr n) (hM.trans (eE x n)) h2
   exact⟨h1,h3⟩
  exact YT (v:=u) (fun d=>⟨rfl,HJ,hb,fn,hf,(key d).1⟩) hi fun d=>(key d).2
 | id::ds,a,x,hS,hR,hM,he,hd,hr,hn=>by
  obtain⟨q1,q2,q3⟩:=hd
  obtain⟨r1,r2,r3⟩:=q3 id (by simp)
  refine ij hP fun n => ?_
  have lR:=hR.dr n
  have Vp:=hM.trans (eE x n)
  obtain⟨t1,t2,t3⟩:=J6 (x:=x.dr n) Vp lR r1 r2
  have hg:=iN (P:=P) (w:=x.w.at n) (show (x.w.at n).heap[x.μ id]? = _ from r3) (by simp)
  have hs:=jM (P:=P) (w:=x.w.at n) (o := .deferred none) (show (x.w.at n).heap[x.μ id]? = _ from r3) (by simp)
  have JJ:(Instr.takeDeferred (x.μ id)).run P (x.w.at n) = .ok [] (bZ (x.w.at n) (x.μ id) (.deferred none)):=by
   simp only[Instr.takeDeferred,Sem.run_bind,hg,Result.andThen_ok,hs,Sem.run_pure]
  obtain⟨es,hst⟩:=Km (P:=P) (b:=b) (a:=a) (todo:=todo) (cs:=[]) (ds:=ds.map fun id=>{ target := .collected (x.μ id),args:=#[] }) (by rw[q1]; rfl) JJ
  refine⟨_,_,_,es,hst,?_⟩
  have RN:=List.nodup_cons.1 q2
  exact vZ hP eC hb hf hi ds (x:={ x.dr n with w:=bZ (x.w.at n) (x.μ id) (.deferred none) }) (a:={ a with defers:=ds.map fun id=>{ target := .collected (x.μ id),args:=#[] } }) hS t1 t2 ⟨he.1,fun j c hc=>t3 _ _ (RV.mono (eE x n) (he.2 j c hc))⟩
   ⟨rfl,RN.2,fun i hi=>by
    obtain⟨u1,u2,u3⟩:=q3 i (by simp[hi])
    have hne:x.μ i≠x.μ id:=fun e=>RN.1 (hR.inj i id (aU u2 (by simp)) (aU r2 (by simp)) e▸hi)
    exact⟨u1,u2,(ga _ _ _ hne).trans u3⟩⟩ hr hn
theorem Rz {Post:Value→World→Prop} (hP:Plain P) (eC:jl P ty) (hc:jL P (yH P Post) call) (kH:∀ id ops draw,vc P (yH P Post) ty aI call yf id ops draw) {L:Nat} {f:FuncId} {fn:Func} (hf:P.funcs[f]? = some fn) (hi:P.inits.idxOf? f=none)
  {args:List DV} {S S':av} {v:DV} (h:tq P ty aI call yf L f fn args S=some (v,S'))
  {vals:Array Value} (hR:Rel x) (hS:x.S=S) (ha:gD x args vals) {u:Value} (hu:∀ y u',y.S=S'→Rel y→cr x y→RV y v u'→u'=u∧Post u y.w):ia P (yH P Post) () (G (Frame.enter P f vals .normal) []) x.w:=by
 subst hS
 unfold tq at h
 split at h
 ·rename_i c hb
  rw[enter_at vals hf hb,← Frame.atR_of_none (b:=base f) rfl]
  have he:gD x (args++List.replicate (fn.ntmps-args.length) bz) (vals++Array.replicate (fn.ntmps-vals.size) undef):=by
   refine kT ha ⟨by simp[ha.1],fun j c hc => ?_⟩
   rw[mN] at hc
   split at hc
   ·rename_i hj
    cases hc
    have:j<fn.ntmps-vals.size:=by rw[ha.1]; exact hj
    have e:(Array.replicate (fn.ntmps-vals.size) undef).getD j undef=undef:=by simp[aV,this]
    rw[e]
    exact .val rfl
   ·cases hc
  have key:∀ e aC S1,cG P ty aI call yf L f false c (args++List.replicate (fn.ntmps-args.length) bz) x.S=some (e,aC,S1)→(e = .normal∨e = .ret)→(qJ ty aC S1 fn.results.toList).map (fun l=>(oneOf l,S1))=some (v,S') →
    ia P (yH P Post) () (G ((base f).atR { tmps:=vals++Array.replicate (fn.ntmps-vals.size) undef,defers:=[] } [.code c]) []) x.w:=by
   intro e aC S1 h1 he1 h2
   simp only[ah,ax] at h2
   obtain⟨l,h3,rfl,rfl⟩:=h2
   refine vM (n0:=x.S.length) (ds:=[]) (b:=base f) (cs:=[]) (iA:=false) hP hc (by simp[base]) rfl (fun _=>rfl) c (vE kH c) h1 hR he (xz _ _) (ai _) fun y a' gW q1 q2 q3 q4 q5 => ?_
   have jJ:∀ todo,ia P (yH P Post) () (G { (base f).at a' todo with mode := .returning } []) y.w:=fun todo =>
    vZ hP eC (x0:=x) (b:=base f) (env:=aC) (l:=l) (Sr:=S1) rfl hf hi gW q1 q2 q3 q4 q5 h3 fun z u r1 r2 r3 r4=>hu z u r1 r2 r3 r4
   rcases he1 with rfl | rfl
   ·show ia P (yH P Post) () (G ((base f).atR a' []) []) y.w
    rw[Frame.atR_of_none (b:=base f) rfl]
    exact fe hP (fun w=>⟨_,stepG_end⟩) (jJ _)
   ·intro k'
    rw[Frame.atR_of_none (b:=base f) rfl]
    exact fe hP (fun w=>⟨_,stepG_ret'⟩) (jJ _)
  split at h
  ·rename_i aC S1 h1
   exact key _ _ _ h1 (.inl rfl) h
  ·rename_i aC S1 h1
   exact key _ _ _ h1 (.inr rfl) h
  ·cases h
 ·cases h
theorem MG {S:av} {v:DV} {b:Bool} (h:(kJ S v).strip = .val (.bool b)):v = .val (.bool b):=by
 unfold kJ at h
 split at h
 ·split at h
  ·split at h<;>simp[DV.strip,DV.di] at h
  ·simp[DV.strip,DV.di] at h
 ·cases v<;>simp_all [DV.strip,DV.di]
theorem PU (hP:Plain P) (hm:P.follows .mixedOrders=true) (eC:jl P ty) {bF:bP} (ht:∀ aa,qO P aa bF) {L n:Nat} {f:FuncId} {args:List DV} {b:Bool} (h0:bF f args=none) (hi:P.inits.idxOf? f=none)
  (h:j6 bF (dG P ty bF L (n+1)).1 f args=some (.val (.bool b))) {vals:Array Value} (hR:Rel x) (hS:x.S=[]) (ha:gD x args vals) :
  ia P (yH P fun v w=>v = .bool b∧qP x.w w) () (G (Frame.enter P f vals .normal) []) x.w:=by
 unfold j6 at h
 rw[h0] at h
 simp only at h
 split at h
 ·rename_i v S' h1
  split at h
  ·simp only[az] at h
   have hv:v = .val (.bool b):=MG h
   subst hv
   simp only[dG] at h1
   split at h1
   ·rename_i fn hf
    obtain⟨Va,ihy⟩:=AQ (aa:=yH P fun v w=>v = .bool b∧qP x.w w) hP hm eC (ht _) (L:=L) n
    have EU:=Iq (ht _) Va
    have kH:∀ id ops draw,vc P (yH P fun v w=>v = .bool b∧qP x.w w) ty (j6 bF (dG P ty bF L n).1) (dG P ty bF L n).1 (dG P ty bF L n).2 id ops draw:=fun id ops draw=>O9 hP hm eC Va EU ihy id ops draw
    refine Rz (u := .bool b) hP eC Va kH hf hi h1 hR hS ha fun y u' q1 q2 q3 q4 => ?_
    cases q4
    exact⟨rfl,rfl,P8 q3 hS⟩
   ·cases h1
  ·cases h
 ·cases h
end Go.Di
end
