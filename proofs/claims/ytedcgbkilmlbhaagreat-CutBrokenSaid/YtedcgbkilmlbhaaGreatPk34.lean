import Derived.Test.YtedcgbkilmlbhaaGreatPk33
import Derived.Test.YtedcgbkilmlbhaaGreatPk05
import Derived.Test.YtedcgbkilmlbhaaGreatPk21
section
namespace Go.Di
open Go Go.Conc Go.Co Go.Proofs
variable {af:Machine→Trace→Prop} {x:Cx}
def mz:bn:=fun f args=>match f,args with
 | 60,[a,b]=>Gf a b
 | 133,[a]=>Qm a
 | 43,[a]=>VX a
 | _,_=>none
theorem gG:oe Tryz.prog af mz:=by
 intro f args v h _ _ x vals hR ha
 unfold mz at h
 split at h
 ·exact Fg h hR ha
 ·exact JW h hR ha
 ·exact KI h hR ha
 ·cases h
theorem Ww (P:Program) (g:Tmp→TypeId→Nat):gT P ⟨xK P,g⟩:=fun _ _ h=>h
theorem xV:gT Tryz.prog TyH:=Ww _ _
theorem qn:Tryz.prog.follows .mixedOrders=true:=by kernel_rfl
mutual
def DV.eqb:DV→DV→Bool
 | .val (.int k n),.val (.int k' n')=>decide (k=k')&&decide (n=n')
 | .val (.bool b),.val (.bool b')=>b==b'
 | .agg l,.agg l'=>DV.DF l l'
 | .ee l,.ee l'=>DV.DF l l'
 | .sl l none ⟨f,i⟩,.sl l' none ⟨f',i'⟩=>f==f'&&decide (i=i')&&DV.DF l l'
 | _,_=>false
def DV.DF:List DV→List DV→Bool
 | [],[]=>true
 | d::l,d'::l'=>DV.eqb d d'&&DV.DF l l'
 | _,_=>false
end
mutual
theorem Nq:∀ d d':DV,DV.eqb d d'=true→d=d':=by
 intro d d' h
 unfold DV.eqb at h
 split at h
 ·simp at h; obtain⟨rfl,rfl⟩:=h; rfl
 ·simp at h; subst h; rfl
 ·rw[tP _ _ h]
 ·rw[tP _ _ h]
 ·simp at h; obtain⟨⟨rfl,rfl⟩,h⟩:=h; rw[tP _ _ h]
 ·cases h
theorem tP:∀ l l':List DV,DV.DF l l'=true→l=l':=by
 intro l l' h
 unfold DV.DF at h
 split at h
 ·rfl
 ·simp at h; rw[Nq _ _ h.1,tP _ _ h.2]
 ·cases h
end
abbrev Row:=FuncId×List DV×DV
def more (aZ:bn) (rows:List Row):bn:=fun f args=>match rows.find? (fun r=>decide (r.1=f)&&DV.DF r.2.1 args) with
 | some r=>some r.2.2
 | none=>aZ f args
def Ja (P:Program) (af:Machine→Trace→Prop) (r:Row):Prop :=
 ∀ x vals,Rel x→dR x r.2.1 vals→cT P af x r.1 vals fun y u=>y.S=x.S∧Rel y∧bk x y∧RV y r.2.2 u
theorem IM {P:Program} {aZ:bn} {rows:List Row} (ht:oe P af aZ) (h:∀ r∈rows,Ja P af r):oe P af (more aZ rows):=by
 intro f args v h1 hp hv x vals hR ha
 unfold more at h1
 split at h1
 ·rename_i r hr
  cases h1
  have h2:=List.find?_some hr
  simp only[Bool.and_eq_true,decide_eq_true_eq] at h2
  obtain⟨rfl,h3⟩:=h2
  cases tP _ _ h3
  exact h r (List.mem_of_find?_eq_some hr) x vals hR ha
 ·exact ht f args v h1 hp hv x vals hR ha
noncomputable def Hw (aZ:bn) (L n:Nat) (r:Row):Bool:=r.2.1.all DV.pure&&match je aZ (cG Tryz.prog TyH aZ L n).1 r.1 r.2.1 with
 | some v=>DV.eqb r.2.2 v
 | none=>false
theorem cR {aZ:bn} {L n:Nat} {r:Row} (ht:oe Tryz.prog af aZ) (h:Hw aZ L n r=true):Ja Tryz.prog af r:=by
 unfold Hw at h
 simp only[Bool.and_eq_true] at h
 obtain⟨hp,h⟩:=h
 split at h
 ·rename_i v hv
  cases Nq _ _ h
  exact(Ci ht (uc eS qn xV ht n).1 r.1 r.2.1 _ hv hp).2
 ·cases h
abbrev ii (n:Int):DV := .val (.int .i64 n)
abbrev bb (b:Bool):DV := .val (.bool b)
abbrev sn:SF:=⟨false,some false⟩
abbrev su:SF:=⟨false,none⟩
abbrev va:DV:=(.agg [(.sl [(ii (0)),(ii (0)),(ii (0)),(ii (0))] none sn),(.sl [(ii (1)),(ii (2)),(ii (1)),(ii (3))] none sn),(ii (0)),(.sl [(ii (0))] none sn)])
abbrev vb:DV:=(.agg [(.sl [(ii (4)),(ii (3)),(ii (4)),(ii (2))] none sn),(.sl [(ii (0)),(ii (1)),(ii (0)),(ii (0))] none sn),(ii (0)),(.sl [(ii (0)),(ii (1)),(ii (2)),(ii (3))] none sn)])
abbrev Tw:Row:=(56,[],va)
abbrev Tu:Row:=(57,[],vb)
abbrev TE:Row:=(55,[va,vb,(ii (0))],(.ee [(.agg [(ii (5)),(ii (5))]),(ii (0))]))
abbrev TF:Row:=(17,[(.sl [va,vb] none sn),(ii (0)),(ii (1))],(.ee [(.sl [(.agg [(ii (0)),(ii (0)),(ii (0))]),(.agg [(ii (0)),(ii (2)),(ii (-1))])] none su),(ii (0))]))
abbrev TG:Row:=(19,[(.sl [va,vb] none sn),(ii (0)),(ii (1))],(.ee [(ii (2)),(ii (0))]))
abbrev TD:Row:=(30,[(.sl [va,vb] none sn)],(.ee [(.sl [(.agg [(ii (0)),(ii (0)),(ii (0))]),(.agg [(ii (1)),(ii (0)),(ii (0))])] none su),(ii (0))]))
abbrev Tx:Row:=(33,[(.sl [va,vb] none sn),(.sl [(.agg [(ii (0)),(ii (0)),(ii (0))]),(.agg [(ii (1)),(ii (0)),(ii (1))])] none sn)],(.ee [(ii (1)),(ii (0))]))
abbrev TA:Row:=(37,[(.sl [va,vb] none sn)],(.ee [(.sl [(.sl [(ii (0)),(ii (0))] none sn),(.sl [(ii (1)),(ii (1))] none sn)] none su),(ii (0))]))
abbrev Tt:Row:=(21,[(.sl [(.agg [(ii (0)),(ii (0)),(ii (0))]),(.agg [(ii (0)),(ii (2)),(ii (-1))])] none su),(.sl [(.agg [(ii (0)),(ii (0)),(ii (0))]),(.agg [(ii (0)),(ii (2)),(ii (-1))])] none sn)],(bb true))
abbrev Tz:Row:=(32,[(.sl [(.agg [(ii (0)),(ii (0)),(ii (0))]),(.agg [(ii (1)),(ii (0)),(ii (0))])] none su),(.sl [(.agg [(ii (0)),(ii (0)),(ii (0))]),(.agg [(ii (1)),(ii (0)),(ii (0))])] none sn)],(bb true))
abbrev Ts:Row:=(24,[(.sl [(.sl [(ii (0)),(ii (0))] none sn),(.sl [(ii (1)),(ii (1))] none sn)] none su),(.sl [(.sl [(ii (0)),(ii (0))] none sn),(.sl [(ii (1)),(ii (1))] none sn)] none sn)],(bb true))
set_option maxRecDepth 1000000
theorem aad:Hw mz 100 40 Tw=true:=by decide +kernel
theorem aac:Hw mz 100 40 Tu=true:=by decide +kernel
theorem aai:Hw mz 100 40 TE=true:=by decide +kernel
theorem aak:Hw mz 100 40 TF=true:=by decide +kernel
theorem aal:Hw mz 100 40 TG=true:=by decide +kernel
theorem aah:Hw mz 100 40 TD=true:=by decide +kernel
theorem aae:Hw mz 100 40 Tx=true:=by decide +kernel
theorem aag:Hw mz 100 40 TA=true:=by decide +kernel
theorem aab:Hw mz 100 40 Tt=true:=by decide +kernel
theorem aaf:Hw mz 100 40 Tz=true:=by decide +kernel
theorem aaa:Hw mz 100 40 Ts=true:=by decide +kernel
abbrev Gh:List Row:=[Tw,Tu,TE,TF,TG,TD,Tx,TA,Tt,Tz,Ts]
theorem aaj:Hw (more mz Gh) 100 2 (12,[],bb true)=true:=by decide +kernel
theorem NL:oe Tryz.prog af (more mz Gh):=IM gG (by
 intro r hr
 simp only[Gh,List.mem_cons,List.not_mem_nil,or_false] at hr
 rcases hr with rfl | rfl | rfl | rfl | rfl | rfl | rfl | rfl | rfl | rfl | rfl
 ·exact cR gG aad
 ·exact cR gG aac
 ·exact cR gG aai
 ·exact cR gG aak
 ·exact cR gG aal
 ·exact cR gG aah
 ·exact cR gG aae
 ·exact cR gG aag
 ·exact cR gG aab
 ·exact cR gG aaf
 ·exact cR gG aaa)
def iI:bn:=more mz [(12,[],bb true)]
theorem Cz:oe Tryz.prog af iI:=IM gG (by
 intro r hr
 simp only[List.mem_cons,List.not_mem_nil,or_false] at hr
 subst hr
 exact cR NL aaj)
end Go.Di
end
section
namespace Go.Di
open Go Go.Conc Go.Co Go.Proofs
variable {P:Program} {ty:eV} {x:Cx} {aD:bn} {call:aW} {yf:dH}
structure oJ (W w:World):Prop where
 os:w.os=W.os
 output:w.output=W.output
 block:∀ k,k<W.heap.size→w.heap[k]? = W.heap[k]?
theorem NQ {x y:Cx} (M:bk x y) (hS:x.S=[]):oJ x.w y.w :=
 ⟨M.env.1,M.env.2,fun k hk=>M.old k hk fun i hi=>absurd (hS▸hi) (ew i)⟩
theorem oJ.at {W w:World} (h:oJ W w) (d:Nat):oJ W (w.at d):=⟨h.os,h.output,h.block⟩
theorem uw {Post:Value→World→Prop} (hP:Plain P) (dh:gT P ty) {x0:Cx} {b:Frame} {todo:List Item} {fn:Func} {env:List DV} {l:List DV} (hb:b.kind = .normal) (hf:P.funcs[b.fn]? = some fn) (hi:P.inits.idxOf? b.fn=none) {Sr:ak} {u:Value} :
  ∀ (ds:List Nat) {a:Act} {x:Cx},x.S=Sr→Rel x→bk x0 x→dR x env a.tmps→lK x0.S.length x ds a.defers→oC ty env Sr fn.results.toList=some l →
   (∀ y v,y.S=Sr→Rel y→bk x0 y→RV y (oneOf l) v→v=u∧Post u y.w)→eY P (wV P Post) () (G { b.at a todo with mode := .returning } []) x.w
 | [],a,x,hS,hR,hM,he,hd,hr,hn=>by
  have FU:a.defers=[]:=hd.1
  have key:∀ n,(results fn a.tmps).run P (x.w.at n) = .ok u (x.w.at n)∧Post u (x.w.at n):=fun n=>by
   obtain⟨v,h1,h2⟩:=zk (x:=x.dr n) dh (hR.dr n) (he.mono (dn x n)) (l:=l) (by show oC ty env x.S _=_; rw[hS]; exact hr)
   obtain⟨rfl,h3⟩:=hn (x.dr n) v hS (hR.dr n) (hM.trans (dn x n)) h2
   exact⟨h1,h3⟩
  exact Xf (v:=u) (fun d=>⟨rfl,FU,hb,fn,hf,(key d).1⟩) hi fun d=>(key d).2
 | id::ds,a,x,hS,hR,hM,he,hd,hr,hn=>by
  obtain⟨q1,q2,q3⟩:=hd
  obtain⟨r1,r2,r3⟩:=q3 id (by simp)
  refine fZ hP fun n => ?_
  have jQ:=hR.dr n
  have Tc:=hM.trans (dn x n)
  obtain⟨t1,t2,t3⟩:=Ir (x:=x.dr n) Tc jQ r1 r2
  have hg:=gv (P:=P) (w:=x.w.at n) (show (x.w.at n).heap[x.μ id]? = _ from r3) (by simp)
  have hs:=iz (P:=P) (w:=x.w.at n) (o := .deferred none) (show (x.w.at n).heap[x.μ id]? = _ from r3) (by simp)
  have HW:(Instr.takeDeferred (x.μ id)).run P (x.w.at n) = .ok [] (bE (x.w.at n) (x.μ id) (.deferred none)):=by
   simp only[Instr.takeDeferred,Sem.run_bind,hg,Result.andThen_ok,hs,Sem.run_pure]
  obtain⟨es,hst⟩:=IB (P:=P) (b:=b) (a:=a) (todo:=todo) (cs:=[]) (ds:=ds.map fun id=>{ target := .collected (x.μ id),args:=#[] }) (by rw[q1]; rfl) HW
  refine⟨_,_,_,es,hst,?_⟩
  have Px:=List.nodup_cons.1 q2
  exact uw hP dh hb hf hi ds (x:={ x.dr n with w:=bE (x.w.at n) (x.μ id) (.deferred none) }) (a:={ a with defers:=ds.map fun id=>{ target := .collected (x.μ id),args:=#[] } }) hS t1 t2 ⟨he.1,fun j c hc=>t3 _ _ (RV.mono (dn x n) (he.2 j c hc))⟩
   ⟨rfl,Px.2,fun i hi=>by
    obtain⟨u1,u2,u3⟩:=q3 i (by simp[hi])
    have hne:x.μ i≠x.μ id:=fun e=>Px.1 (hR.inj i id (aO u2 (by simp)) (aO r2 (by simp)) e▸hi)
    exact⟨u1,u2,(eA _ _ _ hne).trans u3⟩⟩ hr hn
theorem Pe {Post:Value→World→Prop} (hP:Plain P) (dh:gT P ty) (hc:gq P (wV P Post) call) (gd:∀ id ops draw,oK P (wV P Post) ty aD call yf id ops draw) {L:Nat} {f:FuncId} {fn:Func} (hf:P.funcs[f]? = some fn) (hi:P.inits.idxOf? f=none)
  {args:List DV} {S S':ak} {v:DV} (h:qQ P ty aD call yf L f fn args S=some (v,S'))
  {vals:Array Value} (hR:Rel x) (hS:x.S=S) (ha:dR x args vals) {u:Value} (hu:∀ y u',y.S=S'→Rel y→bk x y→RV y v u'→u'=u∧Post u y.w):eY P (wV P Post) () (G (Frame.enter P f vals .normal) []) x.w:=by
 subst hS
 unfold qQ at h
 split at h
 ·rename_i c hb
  rw[enter_at vals hf hb,← Frame.atR_of_none (b:=base f) rfl]
  have he:dR x (args++List.replicate (fn.ntmps-args.length) aP) (vals++Array.replicate (fn.ntmps-vals.size) undef):=by
   refine iy ha ⟨by simp[ha.1],fun j c hc => ?_⟩
   rw[List.getElem?_replicate] at hc
   split at hc
   ·rename_i hj
    cases hc
    have:j<fn.ntmps-vals.size:=by rw[ha.1]; exact hj
    have e:(Array.replicate (fn.ntmps-vals.size) undef).getD j undef=undef:=by simp[Array.getD_eq_getD_getElem?,this]
    rw[e]
    exact .val rfl
   ·cases hc
  have key:∀ e ay S1,bC P ty aD call yf L f false c (args++List.replicate (fn.ntmps-args.length) aP) x.S=some (e,ay,S1)→(e = .normal∨e = .ret)→(oC ty ay S1 fn.results.toList).map (fun l=>(oneOf l,S1))=some (v,S') →
    eY P (wV P Post) () (G ((base f).atR { tmps:=vals++Array.replicate (fn.ntmps-vals.size) undef,defers:=[] } [.code c]) []) x.w:=by
   intro e ay S1 h1 YK h2
   simp only[Option.map_eq_some_iff,Prod.mk.injEq] at h2
   obtain⟨l,h3,rfl,rfl⟩:=h2
   refine lB (n0:=x.S.length) (ds:=[]) (b:=base f) (cs:=[]) (fC:=false) hP hc (by simp[base]) rfl (fun _=>rfl) c (lq gd c) h1 hR he (qu _ _) (Nat.le_refl _) fun y a' eE q1 q2 q3 q4 q5 => ?_
   have fT:∀ todo,eY P (wV P Post) () (G { (base f).at a' todo with mode := .returning } []) y.w:=fun todo =>
    uw hP dh (x0:=x) (b:=base f) (env:=ay) (l:=l) (Sr:=S1) rfl hf hi eE q1 q2 q3 q4 q5 h3 fun z u r1 r2 r3 r4=>hu z u r1 r2 r3 r4
   rcases YK with rfl | rfl
   ·show eY P (wV P Post) () (G ((base f).atR a' []) []) y.w
    rw[Frame.atR_of_none (b:=base f) rfl]
    exact cE hP (fun w=>⟨_,stepG_end⟩) (fT _)
   ·intro k'
    rw[Frame.atR_of_none (b:=base f) rfl]
    exact cE hP (fun w=>⟨_,stepG_ret'⟩) (fT _)
  split at h
  ·rename_i ay S1 h1
   exact key _ _ _ h1 (.inl rfl) h
  ·rename_i ay S1 h1
   exact key _ _ _ h1 (.inr rfl) h
  ·cases h
 ·cases h
theorem Kv {S:ak} {v:DV} {b:Bool} (h:(jd S v).strip = .val (.bool b)):v = .val (.bool b):=by
 unfold jd at h
 split at h
 ·split at h
  ·split at h<;>simp[DV.strip,DV.cv] at h
  ·simp[DV.strip,DV.cv] at h
 ·cases v<;>simp_all [DV.strip,DV.cv]
theorem NI (hP:Plain P) (hm:P.follows .mixedOrders=true) (dh:gT P ty) {aZ:bn} (ht:∀ af,oe P af aZ) {L n:Nat} {f:FuncId} {args:List DV} {b:Bool} (h0:aZ f args=none) (hi:P.inits.idxOf? f=none)
  (h:je aZ (cG P ty aZ L (n+1)).1 f args=some (.val (.bool b))) {vals:Array Value} (hR:Rel x) (hS:x.S=[]) (ha:dR x args vals) :
  eY P (wV P fun v w=>v = .bool b∧oJ x.w w) () (G (Frame.enter P f vals .normal) []) x.w:=by
 unfold je at h
 rw[h0] at h
 simp only at h
 split at h
 ·rename_i v S' h1
  split at h
  ·simp only[Option.some.injEq] at h
   have hv:v = .val (.bool b):=Kv h
   subst hv
   simp only[cG] at h1
   split at h1
   ·rename_i fn hf
    obtain⟨SP,ihy⟩:=uc (af:=wV P fun v w=>v = .bool b∧oJ x.w w) hP hm dh (ht _) (L:=L) n
    have HJ:=Ci (ht _) SP
    have gd:∀ id ops draw,oK P (wV P fun v w=>v = .bool b∧oJ x.w w) ty (je aZ (cG P ty aZ L n).1) (cG P ty aZ L n).1 (cG P ty aZ L n).2 id ops draw:=fun id ops draw=>Gj hP hm dh SP HJ ihy id ops draw
    refine Pe (u := .bool b) hP dh SP gd hf hi h1 hR hS ha fun y u' q1 q2 q3 q4 => ?_
    cases q4
    exact⟨rfl,rfl,NQ q3 hS⟩
   ·cases h1
  ·cases h
 ·cases h
end Go.Di
end
