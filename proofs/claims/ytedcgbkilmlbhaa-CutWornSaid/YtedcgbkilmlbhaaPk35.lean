import Derived.Test.YtedcgbkilmlbhaaPk34
import Derived.Test.YtedcgbkilmlbhaaPk05
import Derived.Test.YtedcgbkilmlbhaaPk22
section
namespace Go.Di
open Go Go.Conc Go.Co Go.Proofs
variable {af:Machine→Trace→Prop} {x:Cx}
def jS:bq:=fun f args=>match f,args with
 | 33,[a,b]=>BQ a b
 | 83,[a]=>PU a
 | 67,[a]=>Qc a
 | _,_=>none
theorem gm:ox Try.prog af jS:=by
 intro f args v h _ _ x vals hR ha
 unfold jS at h
 split at h
 ·exact EK h hR ha
 ·exact JH h hR ha
 ·exact Kr h hR ha
 ·cases h
theorem VA (P:Program) (g:Tmp→TypeId→Nat):gE P ⟨Li P,g⟩:=fun _ _ h=>h
theorem SD:gE Try.prog TyH:=VA _ _
theorem A0:Try.prog.follows .mixedOrders=true:=by kernel_rfl
mutual
def DV.eqb:DV→DV→Bool
 | .val (.int k n),.val (.int k' n')=>decide (k=k')&&decide (n=n')
 | .val (.bool b),.val (.bool b')=>b==b'
 | .agg l,.agg l'=>DV.Df l l'
 | .fB l,.fB l'=>DV.Df l l'
 | .sl l none ⟨f,i⟩,.sl l' none ⟨f',i'⟩=>f==f'&&decide (i=i')&&DV.Df l l'
 | _,_=>false
def DV.Df:List DV→List DV→Bool
 | [],[]=>true
 | d::l,d'::l'=>DV.eqb d d'&&DV.Df l l'
 | _,_=>false
end
mutual
theorem MW:∀ d d':DV,DV.eqb d d'=true→d=d':=by
 intro d d' h
 unfold DV.eqb at h
 split at h
 ·simp at h; obtain⟨rfl,rfl⟩:=h; rfl
 ·simp at h; subst h; rfl
 ·rw[s5 _ _ h]
 ·rw[s5 _ _ h]
 ·simp at h; obtain⟨⟨rfl,rfl⟩,h⟩:=h; rw[s5 _ _ h]
 ·cases h
theorem s5:∀ l l':List DV,DV.Df l l'=true→l=l':=by
 intro l l' h
 unfold DV.Df at h
 split at h
 ·rfl
 ·simp at h; rw[MW _ _ h.1,s5 _ _ h.2]
 ·cases h
end
abbrev Row:=FuncId×List DV×DV
def more (aZ:bq) (rows:List Row):bq:=fun f args=>match rows.find? (fun r=>decide (r.1=f)&&DV.Df r.2.1 args) with
 | some r=>some r.2.2
 | none=>aZ f args
def IV (P:Program) (af:Machine→Trace→Prop) (r:Row):Prop :=
 ∀ x vals,Rel x→eR x r.2.1 vals→dh P af x r.1 vals fun y u=>y.S=x.S∧Rel y∧bI x y∧RV y r.2.2 u
theorem It {P:Program} {aZ:bq} {rows:List Row} (ht:ox P af aZ) (h:∀ r∈rows,IV P af r):ox P af (more aZ rows):=by
 intro f args v h1 hp hv x vals hR ha
 unfold more at h1
 split at h1
 ·rename_i r hr
  cases h1
  have h2:=List.find?_some hr
  simp only[Bool.and_eq_true,decide_eq_true_eq] at h2
  obtain⟨rfl,h3⟩:=h2
  cases s5 _ _ h3
  exact h r (List.mem_of_find?_eq_some hr) x vals hR ha
 ·exact ht f args v h1 hp hv x vals hR ha
noncomputable def G4 (aZ:bq) (L n:Nat) (r:Row):Bool:=r.2.1.all DV.pure&&match iC aZ (cK Try.prog TyH aZ L n).1 r.1 r.2.1 with
 | some v=>DV.eqb r.2.2 v
 | none=>false
theorem cR {aZ:bq} {L n:Nat} {r:Row} (ht:ox Try.prog af aZ) (h:G4 aZ L n r=true):IV Try.prog af r:=by
 unfold G4 at h
 simp only[Bool.and_eq_true] at h
 obtain⟨hp,h⟩:=h
 split at h
 ·rename_i v hv
  cases MW _ _ h
  exact(FZ ht (yB ia A0 SD ht n).1 r.1 r.2.1 _ hv hp).2
 ·cases h
abbrev ii (n:Int):DV := .val (.int .i64 n)
abbrev bb (b:Bool):DV := .val (.bool b)
abbrev sn:SF:=⟨false,some false⟩
abbrev su:SF:=⟨false,none⟩
abbrev va:DV:=(.agg [(.sl [(ii (0)),(ii (0)),(ii (0)),(ii (0))] none sn),(.sl [(ii (1)),(ii (2)),(ii (1)),(ii (3))] none sn),(ii (0)),(.sl [(ii (0))] none sn)])
abbrev vb:DV:=(.agg [(.sl [(ii (4)),(ii (3)),(ii (4)),(ii (2))] none sn),(.sl [(ii (0)),(ii (1)),(ii (0)),(ii (0))] none sn),(ii (0)),(.sl [(ii (0)),(ii (1)),(ii (2)),(ii (3))] none sn)])
abbrev SM:Row:=(36,[],va)
abbrev SL:Row:=(37,[],vb)
abbrev SR:Row:=(38,[va,vb,(ii (0))],(.fB [(.agg [(ii (5)),(ii (5))]),(ii (0))]))
abbrev SS:Row:=(11,[(.sl [va,vb] none sn),(ii (0)),(ii (1))],(.fB [(.sl [(.agg [(ii (0)),(ii (0)),(ii (0))]),(.agg [(ii (0)),(ii (2)),(ii (-1))])] none su),(ii (0))]))
abbrev SU:Row:=(10,[(.sl [va,vb] none sn),(ii (0)),(ii (1))],(.fB [(ii (2)),(ii (0))]))
abbrev SQ:Row:=(16,[(.sl [va,vb] none sn)],(.fB [(.sl [(.agg [(ii (0)),(ii (0)),(ii (0))]),(.agg [(ii (1)),(ii (0)),(ii (0))])] none su),(ii (0))]))
abbrev SN:Row:=(23,[(.sl [va,vb] none sn),(.sl [(.agg [(ii (0)),(ii (0)),(ii (0))]),(.agg [(ii (1)),(ii (0)),(ii (1))])] none sn)],(.fB [(ii (1)),(ii (0))]))
abbrev SP:Row:=(17,[(.sl [va,vb] none sn)],(.fB [(.sl [(.sl [(ii (0)),(ii (0))] none sn),(.sl [(ii (1)),(ii (1))] none sn)] none su),(ii (0))]))
abbrev SK:Row:=(39,[(.sl [(.agg [(ii (0)),(ii (0)),(ii (0))]),(.agg [(ii (0)),(ii (2)),(ii (-1))])] none su),(.sl [(.agg [(ii (0)),(ii (0)),(ii (0))]),(.agg [(ii (0)),(ii (2)),(ii (-1))])] none sn)],(bb true))
abbrev SO:Row:=(22,[(.sl [(.agg [(ii (0)),(ii (0)),(ii (0))]),(.agg [(ii (1)),(ii (0)),(ii (0))])] none su),(.sl [(.agg [(ii (0)),(ii (0)),(ii (0))]),(.agg [(ii (1)),(ii (0)),(ii (0))])] none sn)],(bb true))
abbrev SJ:Row:=(40,[(.sl [(.sl [(ii (0)),(ii (0))] none sn),(.sl [(ii (1)),(ii (1))] none sn)] none su),(.sl [(.sl [(ii (0)),(ii (0))] none sn),(.sl [(ii (1)),(ii (1))] none sn)] none sn)],(bb true))
set_option maxRecDepth 1000000
theorem Zi:G4 jS 100 40 SM=true:=by decide +kernel
theorem Zh:G4 jS 100 40 SL=true:=by decide +kernel
theorem Zn:G4 jS 100 40 SR=true:=by decide +kernel
theorem Zp:G4 jS 100 40 SS=true:=by decide +kernel
theorem Zq:G4 jS 100 40 SU=true:=by decide +kernel
theorem Zm:G4 jS 100 40 SQ=true:=by decide +kernel
theorem Zj:G4 jS 100 40 SN=true:=by decide +kernel
theorem Zl:G4 jS 100 40 SP=true:=by decide +kernel
theorem Zg:G4 jS 100 40 SK=true:=by decide +kernel
theorem Zk:G4 jS 100 40 SO=true:=by decide +kernel
theorem Zf:G4 jS 100 40 SJ=true:=by decide +kernel
abbrev FO:List Row:=[SM,SL,SR,SS,SU,SQ,SN,SP,SK,SO,SJ]
theorem Zo:G4 (more jS FO) 100 2 (13,[],bb true)=true:=by decide +kernel
theorem Nr:ox Try.prog af (more jS FO):=It gm (by
 intro r hr
 simp only[FO,List.mem_cons,List.not_mem_nil,or_false] at hr
 rcases hr with rfl | rfl | rfl | rfl | rfl | rfl | rfl | rfl | rfl | rfl | rfl
 ·exact cR gm Zi
 ·exact cR gm Zh
 ·exact cR gm Zn
 ·exact cR gm Zp
 ·exact cR gm Zq
 ·exact cR gm Zm
 ·exact cR gm Zj
 ·exact cR gm Zl
 ·exact cR gm Zg
 ·exact cR gm Zk
 ·exact cR gm Zf)
def zL:bq:=more jS [(13,[],bb true)]
theorem QF:ox Try.prog af zL:=It gm (by
 intro r hr
 simp only[List.mem_cons,List.not_mem_nil,or_false] at hr
 subst hr
 exact cR Nr Zo)
end Go.Di
end
section
namespace Go.Di
open Go Go.Conc Go.Co Go.Proofs
variable {P:Program} {ty:eS} {x:Cx} {aD:bq} {call:bg} {yf:dF}
structure oy (W w:World):Prop where
 os:w.os=W.os
 output:w.output=W.output
 block:∀ k,k<W.heap.size→w.heap[k]? = W.heap[k]?
theorem Nw {x y:Cx} (M:bI x y) (hS:x.S=[]):oy x.w y.w :=
 ⟨M.env.1,M.env.2,fun k hk=>M.old k hk fun i hi=>absurd (hS▸hi) (en i)⟩
theorem oy.at {W w:World} (h:oy W w) (d:Nat):oy W (w.at d):=⟨h.os,h.output,h.block⟩
theorem tN {Post:Value→World→Prop} (hP:Plain P) (dc:gE P ty) {x0:Cx} {b:Frame} {todo:List Item} {fn:Func} {env:List DV} {l:List DV} (hb:b.kind = .normal) (hf:P.funcs[b.fn]? = some fn) (hi:P.inits.idxOf? b.fn=none) {Sr:ak} {u:Value} :
  ∀ (ds:List Nat) {a:Act} {x:Cx},x.S=Sr→Rel x→bI x0 x→eR x env a.tmps→oB x0.S.length x ds a.defers→oq ty env Sr fn.results.toList=some l →
   (∀ y v,y.S=Sr→Rel y→bI x0 y→RV y (oneOf l) v→v=u∧Post u y.w)→fH P (wm P Post) () (G { b.at a todo with mode := .returning } []) x.w
 | [],a,x,hS,hR,hM,he,hd,hr,hn=>by
  have Fq:a.defers=[]:=hd.1
  have key:∀ n,(results fn a.tmps).run P (x.w.at n) = .ok u (x.w.at n)∧Post u (x.w.at n):=fun n=>by
   obtain⟨v,h1,h2⟩:=yN (x:=x.dr n) dc (hR.dr n) (he.mono (dg x n)) (l:=l) (by show oq ty env x.S _=_; rw[hS]; exact hr)
   obtain⟨rfl,h3⟩:=hn (x.dr n) v hS (hR.dr n) (hM.trans (dg x n)) h2
   exact⟨h1,h3⟩
  exact V8 (v:=u) (fun d=>⟨rfl,Fq,hb,fn,hf,(key d).1⟩) hi fun d=>(key d).2
 | id::ds,a,x,hS,hR,hM,he,hd,hr,hn=>by
  obtain⟨q1,q2,q3⟩:=hd
  obtain⟨r1,r2,r3⟩:=q3 id (by simp)
  refine fK hP fun n => ?_
  have jG:=hR.dr n
  have Sw:=hM.trans (dg x n)
  obtain⟨t1,t2,t3⟩:=HR (x:=x.dr n) Sw jG r1 r2
  have hg:=fV (P:=P) (w:=x.w.at n) (show (x.w.at n).heap[x.μ id]? = _ from r3) (by simp)
  have hs:=gX (P:=P) (w:=x.w.at n) (o := .deferred none) (show (x.w.at n).heap[x.μ id]? = _ from r3) (by simp)
  have Hs:(Instr.takeDeferred (x.μ id)).run P (x.w.at n) = .ok [] (bD (x.w.at n) (x.μ id) (.deferred none)):=by
   simp only[Instr.takeDeferred,Sem.run_bind,hg,Result.andThen_ok,hs,Sem.run_pure]
  obtain⟨es,hst⟩:=Ig (P:=P) (b:=b) (a:=a) (todo:=todo) (cs:=[]) (ds:=ds.map fun id=>{ target := .collected (x.μ id),args:=#[] }) (by rw[q1]; rfl) Hs
  refine⟨_,_,_,es,hst,?_⟩
  have O8:=List.nodup_cons.1 q2
  exact tN hP dc hb hf hi ds (x:={ x.dr n with w:=bD (x.w.at n) (x.μ id) (.deferred none) }) (a:={ a with defers:=ds.map fun id=>{ target := .collected (x.μ id),args:=#[] } }) hS t1 t2 ⟨he.1,fun j c hc=>t3 _ _ (RV.mono (dg x n) (he.2 j c hc))⟩
   ⟨rfl,O8.2,fun i hi=>by
    obtain⟨u1,u2,u3⟩:=q3 i (by simp[hi])
    have hne:x.μ i≠x.μ id:=fun e=>O8.1 (hR.inj i id (aK u2 (by simp)) (aK r2 (by simp)) e▸hi)
    exact⟨u1,u2,(eA _ _ _ hne).trans u3⟩⟩ hr hn
theorem OX {Post:Value→World→Prop} (hP:Plain P) (dc:gE P ty) (hc:gW P (wm P Post) call) (iR:∀ id ops draw,sM P (wm P Post) ty aD call yf id ops draw) {L:Nat} {f:FuncId} {fn:Func} (hf:P.funcs[f]? = some fn) (hi:P.inits.idxOf? f=none)
  {args:List DV} {S S':ak} {v:DV} (h:qE P ty aD call yf L f fn args S=some (v,S'))
  {vals:Array Value} (hR:Rel x) (hS:x.S=S) (ha:eR x args vals) {u:Value} (hu:∀ y u',y.S=S'→Rel y→bI x y→RV y v u'→u'=u∧Post u y.w):fH P (wm P Post) () (G (Frame.enter P f vals .normal) []) x.w:=by
 subst hS
 unfold qE at h
 split at h
 ·rename_i c hb
  rw[enter_at vals hf hb,← Frame.atR_of_none (b:=base f) rfl]
  have he:eR x (args++List.replicate (fn.ntmps-args.length) aV) (vals++Array.replicate (fn.ntmps-vals.size) undef):=by
   refine jf ha ⟨by simp[ha.1],fun j c hc => ?_⟩
   rw[List.getElem?_replicate] at hc
   split at hc
   ·rename_i hj
    cases hc
    have:j<fn.ntmps-vals.size:=by rw[ha.1]; exact hj
    have e:(Array.replicate (fn.ntmps-vals.size) undef).getD j undef=undef:=by simp[Array.getD_eq_getD_getElem?,this]
    rw[e]
    exact .val rfl
   ·cases hc
  have key:∀ e az S1,bO P ty aD call yf L f false c (args++List.replicate (fn.ntmps-args.length) aV) x.S=some (e,az,S1)→(e = .normal∨e = .ret)→(oq ty az S1 fn.results.toList).map (fun l=>(oneOf l,S1))=some (v,S') →
    fH P (wm P Post) () (G ((base f).atR { tmps:=vals++Array.replicate (fn.ntmps-vals.size) undef,defers:=[] } [.code c]) []) x.w:=by
   intro e az S1 h1 XX h2
   simp only[Option.map_eq_some_iff,Prod.mk.injEq] at h2
   obtain⟨l,h3,rfl,rfl⟩:=h2
   refine tw (n0:=x.S.length) (ds:=[]) (b:=base f) (cs:=[]) (gJ:=false) hP hc (by simp[base]) rfl (fun _=>rfl) c (s9 iR c) h1 hR he (uS _ _) (Nat.le_refl _) fun y a' fD q1 q2 q3 q4 q5 => ?_
   have gU:∀ todo,fH P (wm P Post) () (G { (base f).at a' todo with mode := .returning } []) y.w:=fun todo =>
    tN hP dc (x0:=x) (b:=base f) (env:=az) (l:=l) (Sr:=S1) rfl hf hi fD q1 q2 q3 q4 q5 h3 fun z u r1 r2 r3 r4=>hu z u r1 r2 r3 r4
   rcases XX with rfl | rfl
   ·show fH P (wm P Post) () (G ((base f).atR a' []) []) y.w
    rw[Frame.atR_of_none (b:=base f) rfl]
    exact dL hP (fun w=>⟨_,stepG_end⟩) (gU _)
   ·intro k'
    rw[Frame.atR_of_none (b:=base f) rfl]
    exact dL hP (fun w=>⟨_,stepG_ret'⟩) (gU _)
  split at h
  ·rename_i az S1 h1
   exact key _ _ _ h1 (.inl rfl) h
  ·rename_i az S1 h1
   exact key _ _ _ h1 (.inr rfl) h
  ·cases h
 ·cases h
theorem Kh {S:ak} {v:DV} {b:Bool} (h:(iT S v).strip = .val (.bool b)):v = .val (.bool b):=by
 unfold iT at h
 split at h
 ·split at h
  ·split at h<;>simp[DV.strip,DV.cA] at h
  ·simp[DV.strip,DV.cA] at h
 ·cases v<;>simp_all [DV.strip,DV.cA]
theorem Nl (hP:Plain P) (hm:P.follows .mixedOrders=true) (dc:gE P ty) {aZ:bq} (ht:∀ af,ox P af aZ) {L n:Nat} {f:FuncId} {args:List DV} {b:Bool} (h0:aZ f args=none) (hi:P.inits.idxOf? f=none)
  (h:iC aZ (cK P ty aZ L (n+1)).1 f args=some (.val (.bool b))) {vals:Array Value} (hR:Rel x) (hS:x.S=[]) (ha:eR x args vals) :
  fH P (wm P fun v w=>v = .bool b∧oy x.w w) () (G (Frame.enter P f vals .normal) []) x.w:=by
 unfold iC at h
 rw[h0] at h
 simp only at h
 split at h
 ·rename_i v S' h1
  split at h
  ·simp only[Option.some.injEq] at h
   have hv:v = .val (.bool b):=Kh h
   subst hv
   simp only[cK] at h1
   split at h1
   ·rename_i fn hf
    obtain⟨Sb,ihy⟩:=yB (af:=wm P fun v w=>v = .bool b∧oy x.w w) hP hm dc (ht _) (L:=L) n
    have Hf:=FZ (ht _) Sb
    have iR:∀ id ops draw,sM P (wm P fun v w=>v = .bool b∧oy x.w w) ty (iC aZ (cK P ty aZ L n).1) (cK P ty aZ L n).1 (cK P ty aZ L n).2 id ops draw:=fun id ops draw=>MD hP hm dc Sb Hf ihy id ops draw
    refine OX (u := .bool b) hP dc Sb iR hf hi h1 hR hS ha fun y u' q1 q2 q3 q4 => ?_
    cases q4
    exact⟨rfl,rfl,Nw q3 hS⟩
   ·cases h1
  ·cases h
 ·cases h
end Go.Di
end
