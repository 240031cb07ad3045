import Derived.Test.YtedcgbkilmlbhaaPk31
import Derived.Test.YtedcgbkilmlbhaaPk19
section
namespace Go.Di
open Go Go.Conc Go.Co Go.Proofs
variable {Final:Machine→Trace→Prop} {x:Cx}
def tab1:IsoF:=fun f args=>match f,args with
 | 33,[a,b]=>seamsD a b
 | 83,[a]=>revD a
 | 67,[a]=>dupD a
 | _,_=>none
theorem tab1_ok:TabOK Try.prog Final tab1:=by
 intro f args v h _ _ x vals hR ha
 unfold tab1 at h
 split at h
 ·exact seams_known h hR ha
 ·exact rev_known h hR ha
 ·exact dup_known h hR ha
 ·cases h
theorem ty_ok (P:Program):TyOk P (tyOf P):=fun _ _ h=>h
theorem mixed_try:Try.prog.follows .mixedOrders=true:=by kernel_rfl
mutual
def DV.eqb:DV→DV→Bool
 | .val (.int k n),.val (.int k' n')=>decide (k=k')&&decide (n=n')
 | .val (.bool b),.val (.bool b')=>b==b'
 | .agg l,.agg l'=>DV.eqbs l l'
 | .tup l,.tup l'=>DV.eqbs l l'
 | .sl l none ⟨f,i⟩,.sl l' none ⟨f',i'⟩=>f==f'&&decide (i=i')&&DV.eqbs l l'
 | _,_=>false
def DV.eqbs:List DV→List DV→Bool
 | [],[]=>true
 | d::l,d'::l'=>DV.eqb d d'&&DV.eqbs l l'
 | _,_=>false
end
mutual
theorem eqb_eq:∀ d d':DV,DV.eqb d d'=true→d=d':=by
 intro d d' h
 unfold DV.eqb at h
 split at h
 ·simp at h; obtain⟨rfl,rfl⟩:=h; rfl
 ·simp at h; subst h; rfl
 ·rw[eqbs_eq _ _ h]
 ·rw[eqbs_eq _ _ h]
 ·simp at h; obtain⟨⟨rfl,rfl⟩,h⟩:=h; rw[eqbs_eq _ _ h]
 ·cases h
theorem eqbs_eq:∀ l l':List DV,DV.eqbs l l'=true→l=l':=by
 intro l l' h
 unfold DV.eqbs at h
 split at h
 ·rfl
 ·simp at h; rw[eqb_eq _ _ h.1,eqbs_eq _ _ h.2]
 ·cases h
end
abbrev Row:=FuncId×List DV×DV
def more (tab:IsoF) (rows:List Row):IsoF:=fun f args=>match rows.find? (fun r=>decide (r.1=f)&&DV.eqbs r.2.1 args) with
 | some r=>some r.2.2
 | none=>tab f args
def GoodRow (P:Program) (Final:Machine→Trace→Prop) (r:Row):Prop :=
 ∀ x vals,Rel x→RVs x r.2.1 vals→EnterOK P Final x r.1 vals fun y u=>y.S=x.S∧Rel y∧Mono x y∧RV y r.2.2 u
theorem more_ok {P:Program} {tab:IsoF} {rows:List Row} (ht:TabOK P Final tab) (h:∀ r∈rows,GoodRow P Final r):TabOK P Final (more tab rows):=by
 intro f args v h1 hp hv x vals hR ha
 unfold more at h1
 split at h1
 ·rename_i r hr
  cases h1
  have h2:=List.find?_some hr
  simp only[Bool.and_eq_true,decide_eq_true_eq] at h2
  obtain⟨rfl,h3⟩:=h2
  cases eqbs_eq _ _ h3
  exact h r (List.mem_of_find?_eq_some hr) x vals hR ha
 ·exact ht f args v h1 hp hv x vals hR ha
noncomputable def ran (tab:IsoF) (L n:Nat) (r:Row):Bool:=r.2.1.all DV.pure&&match isoOf tab (deepP Try.prog (tyOf Try.prog) tab L n).1 r.1 r.2.1 with
 | some v=>DV.eqb r.2.2 v
 | none=>false
theorem good_of_ran {tab:IsoF} {L n:Nat} {r:Row} (ht:TabOK Try.prog Final tab) (h:ran tab L n r=true):GoodRow Try.prog Final r:=by
 unfold ran at h
 simp only[Bool.and_eq_true] at h
 obtain⟨hp,h⟩:=h
 split at h
 ·rename_i v hv
  cases eqb_eq _ _ h
  exact(iso_ok ht (deepP_ok plain_try mixed_try (ty_ok _) ht n).1 r.1 r.2.1 _ hv hp).2
 ·cases h
abbrev ii (n:Int):DV := .val (.int .i64 n)
abbrev bb (b:Bool):DV := .val (.bool b)
abbrev sn:SF:=⟨false,some false⟩
abbrev su:SF:=⟨false,none⟩
abbrev va:DV:=(.agg [(.sl [(ii (0)),(ii (0)),(ii (0)),(ii (0))] none sn),(.sl [(ii (1)),(ii (2)),(ii (1)),(ii (3))] none sn),(ii (0)),(.sl [(ii (0))] none sn)])
abbrev vb:DV:=(.agg [(.sl [(ii (4)),(ii (3)),(ii (4)),(ii (2))] none sn),(.sl [(ii (0)),(ii (1)),(ii (0)),(ii (0))] none sn),(ii (0)),(.sl [(ii (0)),(ii (1)),(ii (2)),(ii (3))] none sn)])
abbrev row54:Row:=(36,[],va)
abbrev row55:Row:=(37,[],vb)
abbrev row21:Row:=(38,[va,vb,(ii (0))],(.tup [(.agg [(ii (5)),(ii (5))]),(ii (0))]))
abbrev row15:Row:=(11,[(.sl [va,vb] none sn),(ii (0)),(ii (1))],(.tup [(.sl [(.agg [(ii (0)),(ii (0)),(ii (0))]),(.agg [(ii (0)),(ii (2)),(ii (-1))])] none su),(ii (0))]))
abbrev row14:Row:=(10,[(.sl [va,vb] none sn),(ii (0)),(ii (1))],(.tup [(ii (2)),(ii (0))]))
abbrev row32:Row:=(16,[(.sl [va,vb] none sn)],(.tup [(.sl [(.agg [(ii (0)),(ii (0)),(ii (0))]),(.agg [(ii (1)),(ii (0)),(ii (0))])] none su),(ii (0))]))
abbrev row38:Row:=(23,[(.sl [va,vb] none sn),(.sl [(.agg [(ii (0)),(ii (0)),(ii (0))]),(.agg [(ii (1)),(ii (0)),(ii (1))])] none sn)],(.tup [(ii (1)),(ii (0))]))
abbrev row33:Row:=(17,[(.sl [va,vb] none sn)],(.tup [(.sl [(.sl [(ii (0)),(ii (0))] none sn),(.sl [(ii (1)),(ii (1))] none sn)] none su),(ii (0))]))
abbrev row56:Row:=(39,[(.sl [(.agg [(ii (0)),(ii (0)),(ii (0))]),(.agg [(ii (0)),(ii (2)),(ii (-1))])] none su),(.sl [(.agg [(ii (0)),(ii (0)),(ii (0))]),(.agg [(ii (0)),(ii (2)),(ii (-1))])] none sn)],(bb true))
abbrev row37:Row:=(22,[(.sl [(.agg [(ii (0)),(ii (0)),(ii (0))]),(.agg [(ii (1)),(ii (0)),(ii (0))])] none su),(.sl [(.agg [(ii (0)),(ii (0)),(ii (0))]),(.agg [(ii (1)),(ii (0)),(ii (0))])] none sn)],(bb true))
abbrev row57:Row:=(40,[(.sl [(.sl [(ii (0)),(ii (0))] none sn),(.sl [(ii (1)),(ii (1))] none sn)] none su),(.sl [(.sl [(ii (0)),(ii (0))] none sn),(.sl [(ii (1)),(ii (1))] none sn)] none sn)],(bb true))
set_option maxRecDepth 1000000
theorem ran54:ran tab1 100 40 row54=true:=by decide +kernel
theorem ran55:ran tab1 100 40 row55=true:=by decide +kernel
theorem ran21:ran tab1 100 40 row21=true:=by decide +kernel
theorem ran15:ran tab1 100 40 row15=true:=by decide +kernel
theorem ran14:ran tab1 100 40 row14=true:=by decide +kernel
theorem ran32:ran tab1 100 40 row32=true:=by decide +kernel
theorem ran38:ran tab1 100 40 row38=true:=by decide +kernel
theorem ran33:ran tab1 100 40 row33=true:=by decide +kernel
theorem ran56:ran tab1 100 40 row56=true:=by decide +kernel
theorem ran37:ran tab1 100 40 row37=true:=by decide +kernel
theorem ran57:ran tab1 100 40 row57=true:=by decide +kernel
abbrev rows17:List Row:=[row54,row55,row21,row15,row14,row32,row38,row33,row56,row37,row57]
theorem ran17:ran (more tab1 rows17) 100 2 (13,[],bb true)=true:=by decide +kernel
theorem tab17_ok:TabOK Try.prog Final (more tab1 rows17):=more_ok tab1_ok (by
 intro r hr
 simp only[rows17,List.mem_cons,List.not_mem_nil,or_false] at hr
 rcases hr with rfl | rfl | rfl | rfl | rfl | rfl | rfl | rfl | rfl | rfl | rfl
 ·exact good_of_ran tab1_ok ran54
 ·exact good_of_ran tab1_ok ran55
 ·exact good_of_ran tab1_ok ran21
 ·exact good_of_ran tab1_ok ran15
 ·exact good_of_ran tab1_ok ran14
 ·exact good_of_ran tab1_ok ran32
 ·exact good_of_ran tab1_ok ran38
 ·exact good_of_ran tab1_ok ran33
 ·exact good_of_ran tab1_ok ran56
 ·exact good_of_ran tab1_ok ran37
 ·exact good_of_ran tab1_ok ran57)
def tabF:IsoF:=more tab1 [(13,[],bb true)]
theorem tabF_ok:TabOK Try.prog Final tabF:=more_ok tab1_ok (by
 intro r hr
 simp only[List.mem_cons,List.not_mem_nil,or_false] at hr
 subst hr
 exact good_of_ran tab17_ok ran17)
end Go.Di
end
section
namespace Go.Di
open Go Go.Conc Go.Co Go.Proofs
variable {P:Program} {ty:Tys} {x:Cx} {iso:IsoF} {call:CallF} {yf:YldF}
structure Stays (W w:World):Prop where
 os:w.os=W.os
 output:w.output=W.output
 block:∀ k,k<W.heap.size→w.heap[k]? = W.heap[k]?
theorem stays_of {x y:Cx} (M:Mono x y) (hS:x.S=[]):Stays x.w y.w :=
 ⟨M.env.1,M.env.2,fun k hk=>M.old k hk fun i hi=>absurd (hS▸hi) (not_live_nil i)⟩
theorem Stays.at {W w:World} (h:Stays W w) (d:Nat):Stays W (w.at d):=⟨h.os,h.output,h.block⟩
theorem mu_leave_top {Post:Value→World→Prop} (hP:Plain P) (hty:TyOk P ty) {x0:Cx} {b:Frame} {todo:List Item} {fn:Func} {env:List DV} {l:List DV} (hb:b.kind = .normal) (hf:P.funcs[b.fn]? = some fn) (hi:P.inits.idxOf? b.fn=none) {Sr:Store} {u:Value} :
  ∀ (ds:List Nat) {a:Act} {x:Cx},x.S=Sr→Rel x→Mono x0 x→RVs x env a.tmps→DefOK x0.S.length x ds a.defers→resD ty env Sr fn.results.toList=some l →
   (∀ y v,y.S=Sr→Rel y→Mono x0 y→RV y (oneOf l) v→v=u∧Post u y.w)→KMu P (Fin0 P Post) () (G { b.at a todo with mode := .returning } []) x.w
 | [],a,x,hS,hR,hM,he,hd,hr,hn=>by
  have hd0:a.defers=[]:=hd.1
  have key:∀ n,(results fn a.tmps).run P (x.w.at n) = .ok u (x.w.at n)∧Post u (x.w.at n):=fun n=>by
   obtain⟨v,h1,h2⟩:=results_ok (x:=x.dr n) hty (hR.dr n) (he.mono (mono_dr x n)) (l:=l) (by show resD ty env x.S _=_; rw[hS]; exact hr)
   obtain⟨rfl,h3⟩:=hn (x.dr n) v hS (hR.dr n) (hM.trans (mono_dr x n)) h2
   exact⟨h1,h3⟩
  exact km_end (v:=u) (fun d=>⟨rfl,hd0,hb,fn,hf,(key d).1⟩) hi fun d=>(key d).2
 | id::ds,a,x,hS,hR,hM,he,hd,hr,hn=>by
  obtain⟨q1,q2,q3⟩:=hd
  obtain⟨r1,r2,r3⟩:=q3 id (by simp)
  refine mu_step hP fun n => ?_
  have hR':=hR.dr n
  have hM':=hM.trans (mono_dr x n)
  obtain⟨t1,t2,t3⟩:=take_ok (x:=x.dr n) hM' hR' r1 r2
  have hg:=run_getObj (P:=P) (w:=x.w.at n) (show (x.w.at n).heap[x.μ id]? = _ from r3) (by simp)
  have hs:=run_setObj (P:=P) (w:=x.w.at n) (o := .deferred none) (show (x.w.at n).heap[x.μ id]? = _ from r3) (by simp)
  have htake:(Instr.takeDeferred (x.μ id)).run P (x.w.at n) = .ok [] (setObjW (x.w.at n) (x.μ id) (.deferred none)):=by
   simp only[Instr.takeDeferred,Sem.run_bind,hg,Result.andThen_ok,hs,Sem.run_pure]
  obtain⟨es,hst⟩:=rG_take (P:=P) (b:=b) (a:=a) (todo:=todo) (cs:=[]) (ds:=ds.map fun id=>{ target := .collected (x.μ id),args:=#[] }) (by rw[q1]; rfl) htake
  refine⟨_,_,_,es,hst,?_⟩
  have hnd:=List.nodup_cons.1 q2
  exact mu_leave_top hP hty hb hf hi ds (x:={ x.dr n with w:=setObjW (x.w.at n) (x.μ id) (.deferred none) }) (a:={ a with defers:=ds.map fun id=>{ target := .collected (x.μ id),args:=#[] } }) hS t1 t2 ⟨he.1,fun j c hc=>t3 _ _ (RV.mono (mono_dr x n) (he.2 j c hc))⟩
   ⟨rfl,hnd.2,fun i hi=>by
    obtain⟨u1,u2,u3⟩:=q3 i (by simp[hi])
    have hne:x.μ i≠x.μ id:=fun e=>hnd.1 (hR.inj i id (live_of u2 (by simp)) (live_of r2 (by simp)) e▸hi)
    exact⟨u1,u2,(setObjW_other _ _ _ hne).trans u3⟩⟩ hr hn
theorem body_top {Post:Value→World→Prop} (hP:Plain P) (hty:TyOk P ty) (hc:CallOK P (Fin0 P Post) call) (hreg:∀ id ops draw,RegOK P (Fin0 P Post) ty iso call yf id ops draw) {L:Nat} {f:FuncId} {fn:Func} (hf:P.funcs[f]? = some fn) (hi:P.inits.idxOf? f=none)
  {args:List DV} {S S':Store} {v:DV} (h:bodyD P ty iso call yf L f fn args S=some (v,S'))
  {vals:Array Value} (hR:Rel x) (hS:x.S=S) (ha:RVs x args vals) {u:Value} (hu:∀ y u',y.S=S'→Rel y→Mono x y→RV y v u'→u'=u∧Post u y.w):KMu P (Fin0 P Post) () (G (Frame.enter P f vals .normal) []) x.w:=by
 subst hS
 unfold bodyD at h
 split at h
 ·rename_i c hb
  rw[enter_at vals hf hb,← Frame.atR_of_none (b:=base f) rfl]
  have he:RVs x (args++List.replicate (fn.ntmps-args.length) dundef) (vals++Array.replicate (fn.ntmps-vals.size) undef):=by
   refine rvs_append ha ⟨by simp[ha.1],fun j c hc => ?_⟩
   rw[List.getElem?_replicate] at hc
   split at hc
   ·rename_i hj
    cases hc
    have:j<fn.ntmps-vals.size:=by rw[ha.1]; exact hj
    have e:(Array.replicate (fn.ntmps-vals.size) undef).getD j undef=undef:=by simp[Array.getD_eq_getD_getElem?,this]
    rw[e]
    exact .val rfl
   ·cases hc
  have key:∀ e env' S1,codeD P ty iso call yf L f false c (args++List.replicate (fn.ntmps-args.length) dundef) x.S=some (e,env',S1)→(e = .normal∨e = .ret)→(resD ty env' S1 fn.results.toList).map (fun l=>(oneOf l,S1))=some (v,S') →
    KMu P (Fin0 P Post) () (G ((base f).atR { tmps:=vals++Array.replicate (fn.ntmps-vals.size) undef,defers:=[] } [.code c]) []) x.w:=by
   intro e env' S1 h1 he1 h2
   simp only[Option.map_eq_some_iff,Prod.mk.injEq] at h2
   obtain⟨l,h3,rfl,rfl⟩:=h2
   refine codeD_ok (n0:=x.S.length) (ds:=[]) (b:=base f) (cs:=[]) (rnd:=false) hP hc (by simp[base]) rfl (fun _=>rfl) c (regs_all hreg c) h1 hR he (defOK_nil _ _) (Nat.le_refl _) fun y a' ds' q1 q2 q3 q4 q5 => ?_
   have hleave:∀ todo,KMu P (Fin0 P Post) () (G { (base f).at a' todo with mode := .returning } []) y.w:=fun todo =>
    mu_leave_top hP hty (x0:=x) (b:=base f) (env:=env') (l:=l) (Sr:=S1) rfl hf hi ds' q1 q2 q3 q4 q5 h3 fun z u r1 r2 r3 r4=>hu z u r1 r2 r3 r4
   rcases he1 with rfl | rfl
   ·show KMu P (Fin0 P Post) () (G ((base f).atR a' []) []) y.w
    rw[Frame.atR_of_none (b:=base f) rfl]
    exact mu_ctl hP (fun w=>⟨_,stepG_end⟩) (hleave _)
   ·intro k'
    rw[Frame.atR_of_none (b:=base f) rfl]
    exact mu_ctl hP (fun w=>⟨_,stepG_ret'⟩) (hleave _)
  split at h
  ·rename_i env' S1 h1
   exact key _ _ _ h1 (.inl rfl) h
  ·rename_i env' S1 h1
   exact key _ _ _ h1 (.inr rfl) h
  ·cases h
 ·cases h
theorem top_bool (hP:Plain P) (hm:P.follows .mixedOrders=true) (hty:TyOk P ty) {tab:IsoF} (ht:∀ Final,TabOK P Final tab) {L n:Nat} {f:FuncId} {args:List DV} {b:Bool} (h0:tab f args=none) (hi:P.inits.idxOf? f=none)
  (h:isoOf tab (deepP P ty tab L (n+1)).1 f args=some (.val (.bool b))) {vals:Array Value} (hR:Rel x) (hS:x.S=[]) (ha:RVs x args vals) :
  KMu P (Fin0 P fun v w=>v = .bool b∧Stays x.w w) () (G (Frame.enter P f vals .normal) []) x.w:=by
 unfold isoOf at h
 rw[h0] at h
 simp only at h
 split at h
 ·rename_i v S' h1
  split at h
  ·simp only[Option.some.injEq] at h
   have hv:v = .val (.bool b):=by cases v<;>simp_all [DV.strip,DV.strip2]
   subst hv
   simp only[deepP] at h1
   split at h1
   ·rename_i fn hf
    obtain⟨ihc,ihy⟩:=deepP_ok (Final:=Fin0 P fun v w=>v = .bool b∧Stays x.w w) hP hm hty (ht _) (L:=L) n
    have hi':=iso_ok (ht _) ihc
    have hreg:∀ id ops draw,RegOK P (Fin0 P fun v w=>v = .bool b∧Stays x.w w) ty (isoOf tab (deepP P ty tab L n).1) (deepP P ty tab L n).1 (deepP P ty tab L n).2 id ops draw:=fun id ops draw=>reg_ok hP hm hty ihc hi' ihy id ops draw
    refine body_top (u := .bool b) hP hty ihc hreg hf hi h1 hR hS ha fun y u' q1 q2 q3 q4 => ?_
    cases q4
    exact⟨rfl,rfl,stays_of q3 hS⟩
   ·cases h1
  ·cases h
 ·cases h
end Go.Di
end
