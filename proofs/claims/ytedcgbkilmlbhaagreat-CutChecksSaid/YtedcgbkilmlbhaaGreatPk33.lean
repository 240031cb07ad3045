import Derived.Test.YtedcgbkilmlbhaaGreatPk32
import Derived.Test.YtedcgbkilmlbhaaGreatPk05
import Derived.Test.YtedcgbkilmlbhaaGreatPk21
section
namespace Go.Di
open Go Go.Conc Go.Co Go.Proofs
variable {af:Machine→Trace→Prop} {x:Cx}
def lK:bk:=fun f args=>match f,args with
 | 60,[a,b]=>Gz a b
 | 133,[a]=>QK a
 | 43,[a]=>Q5 a
 | _,_=>none
theorem gM:ot Tryz.prog af lK:=by
 intro f args v h _ _ x vals hR ha
 unfold lK at h
 split at h
 ·exact FC h hR ha
 ·exact KD h hR ha
 ·exact Lp h hR ha
 ·cases h
theorem WO (P:Program) (g:Tmp→TypeId→Nat):gY P ⟨x7 P,g⟩:=fun _ _ h=>h
theorem yl:gY Tryz.prog TyH:=WO _ _
theorem qy:Tryz.prog.follows .mixedOrders=true:=by kernel_rfl
mutual
def DV.eqb:DV→DV→Bool
 | .val (.int k n),.val (.int k' n')=>decide (k=k')&&decide (n=n')
 | .val (.bool b),.val (.bool b')=>b==b'
 | .agg l,.agg l'=>DV.DY l l'
 | .ep l,.ep l'=>DV.DY l l'
 | .sl l none ⟨f,i⟩,.sl l' none ⟨f',i'⟩=>f==f'&&decide (i=i')&&DV.DY l l'
 | _,_=>false
def DV.DY:List DV→List DV→Bool
 | [],[]=>true
 | d::l,d'::l'=>DV.eqb d d'&&DV.DY l l'
 | _,_=>false
end
mutual
theorem NY:∀ d d':DV,DV.eqb d d'=true→d=d':=by
 intro d d' h
 unfold DV.eqb at h
 split at h
 ·simp at h; obtain⟨rfl,rfl⟩:=h; rfl
 ·simp at h; subst h; rfl
 ·rw[ud _ _ h]
 ·rw[ud _ _ h]
 ·simp at h; obtain⟨⟨rfl,rfl⟩,h⟩:=h; rw[ud _ _ h]
 ·cases h
theorem ud:∀ l l':List DV,DV.DY l l'=true→l=l':=by
 intro l l' h
 unfold DV.DY at h
 split at h
 ·rfl
 ·simp at h; rw[NY _ _ h.1,ud _ _ h.2]
 ·cases h
end
abbrev Row:=FuncId×List DV×DV
def more (aV:bk) (rows:List Row):bk:=fun f args=>match rows.find? (fun r=>decide (r.1=f)&&DV.DY r.2.1 args) with
 | some r=>some r.2.2
 | none=>aV f args
def JG (P:Program) (af:Machine→Trace→Prop) (r:Row):Prop :=
 ∀ x vals,Rel x→en x r.2.1 vals→cU P af x r.1 vals fun y u=>y.S=x.S∧Rel y∧bh x y∧RV y r.2.2 u
theorem Jj {P:Program} {aV:bk} {rows:List Row} (ht:ot P af aV) (h:∀ r∈rows,JG P af r):ot P af (more aV rows):=by
 intro f args v h1 hp hv x vals hR ha
 unfold more at h1
 split at h1
 ·rename_i r hr
  cases h1
  have h2:=List.find?_some hr
  simp only[Bool.and_eq_true,decide_eq_true_eq] at h2
  obtain⟨rfl,h3⟩:=h2
  cases ud _ _ h3
  exact h r (List.mem_of_find?_eq_some hr) x vals hR ha
 ·exact ht f args v h1 hp hv x vals hR ha
noncomputable def HW (aV:bk) (L n:Nat) (r:Row):Bool:=r.2.1.all DV.pure&&match iS aV (cG Tryz.prog TyH aV L n).1 r.1 r.2.1 with
 | some v=>DV.eqb r.2.2 v
 | none=>false
theorem cR {aV:bk} {L n:Nat} {r:Row} (ht:ot Tryz.prog af aV) (h:HW aV L n r=true):JG Tryz.prog af r:=by
 unfold HW at h
 simp only[Bool.and_eq_true] at h
 obtain⟨hp,h⟩:=h
 split at h
 ·rename_i v hv
  cases NY _ _ h
  exact(Cy ht (ur eX qy yl ht n).1 r.1 r.2.1 _ hv hp).2
 ·cases h
abbrev ii (n:Int):DV := .val (.int .i64 n)
abbrev bb (b:Bool):DV := .val (.bool b)
abbrev sn:SF:=⟨false,some false⟩
abbrev su:SF:=⟨false,none⟩
abbrev va:DV:=(.agg [(.sl [(ii (0)),(ii (0)),(ii (0)),(ii (0))] none sn),(.sl [(ii (1)),(ii (2)),(ii (1)),(ii (3))] none sn),(ii (0)),(.sl [(ii (0))] none sn)])
abbrev vb:DV:=(.agg [(.sl [(ii (4)),(ii (3)),(ii (4)),(ii (2))] none sn),(.sl [(ii (0)),(ii (1)),(ii (0)),(ii (0))] none sn),(ii (0)),(.sl [(ii (0)),(ii (1)),(ii (2)),(ii (3))] none sn)])
abbrev Uc:Row:=(56,[],va)
abbrev Ub:Row:=(57,[],vb)
abbrev Uh:Row:=(55,[va,vb,(ii (0))],(.ep [(.agg [(ii (5)),(ii (5))]),(ii (0))]))
abbrev Ui:Row:=(17,[(.sl [va,vb] none sn),(ii (0)),(ii (1))],(.ep [(.sl [(.agg [(ii (0)),(ii (0)),(ii (0))]),(.agg [(ii (0)),(ii (2)),(ii (-1))])] none su),(ii (0))]))
abbrev Uj:Row:=(19,[(.sl [va,vb] none sn),(ii (0)),(ii (1))],(.ep [(ii (2)),(ii (0))]))
abbrev Ug:Row:=(30,[(.sl [va,vb] none sn)],(.ep [(.sl [(.agg [(ii (0)),(ii (0)),(ii (0))]),(.agg [(ii (1)),(ii (0)),(ii (0))])] none su),(ii (0))]))
abbrev Ud:Row:=(33,[(.sl [va,vb] none sn),(.sl [(.agg [(ii (0)),(ii (0)),(ii (0))]),(.agg [(ii (1)),(ii (0)),(ii (1))])] none sn)],(.ep [(ii (1)),(ii (0))]))
abbrev Uf:Row:=(37,[(.sl [va,vb] none sn)],(.ep [(.sl [(.sl [(ii (0)),(ii (0))] none sn),(.sl [(ii (1)),(ii (1))] none sn)] none su),(ii (0))]))
abbrev Ua:Row:=(21,[(.sl [(.agg [(ii (0)),(ii (0)),(ii (0))]),(.agg [(ii (0)),(ii (2)),(ii (-1))])] none su),(.sl [(.agg [(ii (0)),(ii (0)),(ii (0))]),(.agg [(ii (0)),(ii (2)),(ii (-1))])] none sn)],(bb true))
abbrev Ue:Row:=(32,[(.sl [(.agg [(ii (0)),(ii (0)),(ii (0))]),(.agg [(ii (1)),(ii (0)),(ii (0))])] none su),(.sl [(.agg [(ii (0)),(ii (0)),(ii (0))]),(.agg [(ii (1)),(ii (0)),(ii (0))])] none sn)],(bb true))
abbrev T9:Row:=(24,[(.sl [(.sl [(ii (0)),(ii (0))] none sn),(.sl [(ii (1)),(ii (1))] none sn)] none su),(.sl [(.sl [(ii (0)),(ii (0))] none sn),(.sl [(ii (1)),(ii (1))] none sn)] none sn)],(bb true))
set_option maxRecDepth 1000000
theorem aav:HW lK 100 40 Uc=true:=by decide +kernel
theorem aau:HW lK 100 40 Ub=true:=by decide +kernel
theorem aaA:HW lK 100 40 Uh=true:=by decide +kernel
theorem aaC:HW lK 100 40 Ui=true:=by decide +kernel
theorem aaD:HW lK 100 40 Uj=true:=by decide +kernel
theorem aaz:HW lK 100 40 Ug=true:=by decide +kernel
theorem aaw:HW lK 100 40 Ud=true:=by decide +kernel
theorem aay:HW lK 100 40 Uf=true:=by decide +kernel
theorem aat:HW lK 100 40 Ua=true:=by decide +kernel
theorem aax:HW lK 100 40 Ue=true:=by decide +kernel
theorem aas:HW lK 100 40 T9=true:=by decide +kernel
abbrev GC:List Row:=[Uc,Ub,Uh,Ui,Uj,Ug,Ud,Uf,Ua,Ue,T9]
theorem aaB:HW (more lK GC) 100 2 (12,[],bb true)=true:=by decide +kernel
theorem Oi:ot Tryz.prog af (more lK GC):=Jj gM (by
 intro r hr
 simp only[GC,List.mem_cons,List.not_mem_nil,or_false] at hr
 rcases hr with rfl | rfl | rfl | rfl | rfl | rfl | rfl | rfl | rfl | rfl | rfl
 ·exact cR gM aav
 ·exact cR gM aau
 ·exact cR gM aaA
 ·exact cR gM aaC
 ·exact cR gM aaD
 ·exact cR gM aaz
 ·exact cR gM aaw
 ·exact cR gM aay
 ·exact cR gM aat
 ·exact cR gM aax
 ·exact cR gM aas)
def iw:bk:=more lK [(12,[],bb true)]
theorem CL:ot Tryz.prog af iw:=Jj gM (by
 intro r hr
 simp only[List.mem_cons,List.not_mem_nil,or_false] at hr
 subst hr
 exact cR Oi aaB)
end Go.Di
end
section
namespace Go.Di
open Go Go.Conc Go.Co Go.Proofs
variable {P:Program} {ty:eY} {x:Cx} {aC:bk} {call:aW} {yf:dR}
structure oP (W w:World):Prop where
 os:w.os=W.os
 output:w.output=W.output
 block:∀ k,k<W.heap.size→w.heap[k]? = W.heap[k]?
theorem On {x y:Cx} (M:bh x y) (hS:x.S=[]):oP x.w y.w :=
 ⟨M.env.1,M.env.2,fun k hk=>M.old k hk fun i hi=>absurd (hS▸hi) (eD i)⟩
theorem oP.at {W w:World} (h:oP W w) (d:Nat):oP W (w.at d):=⟨h.os,h.output,h.block⟩
theorem uJ {Post:Value→World→Prop} (hP:Plain P) (dx:gY P ty) {x0:Cx} {b:Frame} {todo:List Item} {fn:Func} {env:List DV} {l:List DV} (hb:b.kind = .normal) (hf:P.funcs[b.fn]? = some fn) (hi:P.inits.idxOf? b.fn=none) {Sr:ak} {u:Value} :
  ∀ (ds:List Nat) {a:Act} {x:Cx},x.S=Sr→Rel x→bh x0 x→en x env a.tmps→lU x0.S.length x ds a.defers→oI ty env Sr fn.results.toList=some l →
   (∀ y v,y.S=Sr→Rel y→bh x0 y→RV y (oneOf l) v→v=u∧Post u y.w)→ff P (xw P Post) () (G { b.at a todo with mode := .returning } []) x.w
 | [],a,x,hS,hR,hM,he,hd,hr,hn=>by
  have Gc:a.defers=[]:=hd.1
  have key:∀ n,(results fn a.tmps).run P (x.w.at n) = .ok u (x.w.at n)∧Post u (x.w.at n):=fun n=>by
   obtain⟨v,h1,h2⟩:=zI (x:=x.dr n) dx (hR.dr n) (he.mono (dD x n)) (l:=l) (by show oI ty env x.S _=_; rw[hS]; exact hr)
   obtain⟨rfl,h3⟩:=hn (x.dr n) v hS (hR.dr n) (hM.trans (dD x n)) h2
   exact⟨h1,h3⟩
  exact Xz (v:=u) (fun d=>⟨rfl,Gc,hb,fn,hf,(key d).1⟩) hi fun d=>(key d).2
 | id::ds,a,x,hS,hR,hM,he,hd,hr,hn=>by
  obtain⟨q1,q2,q3⟩:=hd
  obtain⟨r1,r2,r3⟩:=q3 id (by simp)
  refine fZ hP fun n => ?_
  have jX:=hR.dr n
  have TL:=hM.trans (dD x n)
  obtain⟨t1,t2,t3⟩:=IV (x:=x.dr n) TL jX r1 r2
  have hg:=gC (P:=P) (w:=x.w.at n) (show (x.w.at n).heap[x.μ id]? = _ from r3) (by simp)
  have hs:=iF (P:=P) (w:=x.w.at n) (o := .deferred none) (show (x.w.at n).heap[x.μ id]? = _ from r3) (by simp)
  have It:(Instr.takeDeferred (x.μ id)).run P (x.w.at n) = .ok [] (bE (x.w.at n) (x.μ id) (.deferred none)):=by
   simp only[Instr.takeDeferred,Sem.run_bind,hg,Result.andThen_ok,hs,Sem.run_pure]
  obtain⟨es,hst⟩:=I8 (P:=P) (b:=b) (a:=a) (todo:=todo) (cs:=[]) (ds:=ds.map fun id=>{ target := .collected (x.μ id),args:=#[] }) (by rw[q1]; rfl) It
  refine⟨_,_,_,es,hst,?_⟩
  have PZ:=List.nodup_cons.1 q2
  exact uJ hP dx hb hf hi ds (x:={ x.dr n with w:=bE (x.w.at n) (x.μ id) (.deferred none) }) (a:={ a with defers:=ds.map fun id=>{ target := .collected (x.μ id),args:=#[] } }) hS t1 t2 ⟨he.1,fun j c hc=>t3 _ _ (RV.mono (dD x n) (he.2 j c hc))⟩
   ⟨rfl,PZ.2,fun i hi=>by
    obtain⟨u1,u2,u3⟩:=q3 i (by simp[hi])
    have hne:x.μ i≠x.μ id:=fun e=>PZ.1 (hR.inj i id (aN u2 (by simp)) (aN r2 (by simp)) e▸hi)
    exact⟨u1,u2,(eG _ _ _ hne).trans u3⟩⟩ hr hn
theorem PK {Post:Value→World→Prop} (hP:Plain P) (dx:gY P ty) (hc:gz P (xw P Post) call) (gd:∀ id ops draw,oQ P (xw P Post) ty aC call yf id ops draw) {L:Nat} {f:FuncId} {fn:Func} (hf:P.funcs[f]? = some fn) (hi:P.inits.idxOf? f=none)
  {args:List DV} {S S':ak} {v:DV} (h:ry P ty aC call yf L f fn args S=some (v,S'))
  {vals:Array Value} (hR:Rel x) (hS:x.S=S) (ha:en x args vals) {u:Value} (hu:∀ y u',y.S=S'→Rel y→bh x y→RV y v u'→u'=u∧Post u y.w):ff P (xw P Post) () (G (Frame.enter P f vals .normal) []) x.w:=by
 subst hS
 unfold ry at h
 split at h
 ·rename_i c hb
  rw[enter_at vals hf hb,← Frame.atR_of_none (b:=base f) rfl]
  have he:en x (args++List.replicate (fn.ntmps-args.length) aO) (vals++Array.replicate (fn.ntmps-vals.size) undef):=by
   refine iE ha ⟨by simp[ha.1],fun j c hc => ?_⟩
   rw[List.getElem?_replicate] at hc
   split at hc
   ·rename_i hj
    cases hc
    have:j<fn.ntmps-vals.size:=by rw[ha.1]; exact hj
    have e:(Array.replicate (fn.ntmps-vals.size) undef).getD j undef=undef:=by simp[Array.getD_eq_getD_getElem?,this]
    rw[e]
    exact .val rfl
   ·cases hc
  have key:∀ e ax S1,bC P ty aC call yf L f false c (args++List.replicate (fn.ntmps-args.length) aO) x.S=some (e,ax,S1)→(e = .normal∨e = .ret)→(oI ty ax S1 fn.results.toList).map (fun l=>(oneOf l,S1))=some (v,S') →
    ff P (xw P Post) () (G ((base f).atR { tmps:=vals++Array.replicate (fn.ntmps-vals.size) undef,defers:=[] } [.code c]) []) x.w:=by
   intro e ax S1 h1 Y2 h2
   simp only[Option.map_eq_some_iff,Prod.mk.injEq] at h2
   obtain⟨l,h3,rfl,rfl⟩:=h2
   refine lI (n0:=x.S.length) (ds:=[]) (b:=base f) (cs:=[]) (fF:=false) hP hc (by simp[base]) rfl (fun _=>rfl) c (lD gd c) h1 hR he (qC _ _) (Nat.le_refl _) fun y a' eM q1 q2 q3 q4 q5 => ?_
   have fS:∀ todo,ff P (xw P Post) () (G { (base f).at a' todo with mode := .returning } []) y.w:=fun todo =>
    uJ hP dx (x0:=x) (b:=base f) (env:=ax) (l:=l) (Sr:=S1) rfl hf hi eM q1 q2 q3 q4 q5 h3 fun z u r1 r2 r3 r4=>hu z u r1 r2 r3 r4
   rcases Y2 with rfl | rfl
   ·show ff P (xw P Post) () (G ((base f).atR a' []) []) y.w
    rw[Frame.atR_of_none (b:=base f) rfl]
    exact cF hP (fun w=>⟨_,stepG_end⟩) (fS _)
   ·intro k'
    rw[Frame.atR_of_none (b:=base f) rfl]
    exact cF hP (fun w=>⟨_,stepG_ret'⟩) (fS _)
  split at h
  ·rename_i ax S1 h1
   exact key _ _ _ h1 (.inl rfl) h
  ·rename_i ax S1 h1
   exact key _ _ _ h1 (.inr rfl) h
  ·cases h
 ·cases h
theorem Le {S:ak} {v:DV} {b:Bool} (h:(jl S v).strip = .val (.bool b)):v = .val (.bool b):=by
 unfold jl at h
 split at h
 ·split at h
  ·split at h<;>simp[DV.strip,DV.cv] at h
  ·simp[DV.strip,DV.cv] at h
 ·cases v<;>simp_all [DV.strip,DV.cv]
theorem Of (hP:Plain P) (hm:P.follows .mixedOrders=true) (dx:gY P ty) {aV:bk} (ht:∀ af,ot P af aV) {L n:Nat} {f:FuncId} {args:List DV} {b:Bool} (h0:aV f args=none) (hi:P.inits.idxOf? f=none)
  (h:iS aV (cG P ty aV L (n+1)).1 f args=some (.val (.bool b))) {vals:Array Value} (hR:Rel x) (hS:x.S=[]) (ha:en x args vals) :
  ff P (xw P fun v w=>v = .bool b∧oP x.w w) () (G (Frame.enter P f vals .normal) []) x.w:=by
 unfold iS at h
 rw[h0] at h
 simp only at h
 split at h
 ·rename_i v S' h1
  split at h
  ·simp only[Option.some.injEq] at h
   have hv:v = .val (.bool b):=Le h
   subst hv
   simp only[cG] at h1
   split at h1
   ·rename_i fn hf
    obtain⟨Tl,ihy⟩:=ur (af:=xw P fun v w=>v = .bool b∧oP x.w w) hP hm dx (ht _) (L:=L) n
    have H9:=Cy (ht _) Tl
    have gd:∀ id ops draw,oQ P (xw P fun v w=>v = .bool b∧oP x.w w) ty (iS aV (cG P ty aV L n).1) (cG P ty aV L n).1 (cG P ty aV L n).2 id ops draw:=fun id ops draw=>GF hP hm dx Tl H9 ihy id ops draw
    refine PK (u := .bool b) hP dx Tl gd hf hi h1 hR hS ha fun y u' q1 q2 q3 q4 => ?_
    cases q4
    exact⟨rfl,rfl,On q3 hS⟩
   ·cases h1
  ·cases h
 ·cases h
end Go.Di
end
