import Derived.Test.YtedcgbkilmlbhaaGreatPk31
import Derived.Test.YtedcgbkilmlbhaaGreatPk05
import Derived.Test.YtedcgbkilmlbhaaGreatPk20
section
namespace Go.Di
open Go Go.Conc Go.Co Go.Proofs
variable {aa:Machine→Trace→Prop} {x:Cx}
def mZ:bM:=fun f args=>match f,args with
 | 60,[a,b]=>HR a b
 | 133,[a]=>RM a
 | 43,[a]=>Sf a
 | _,_=>none
theorem iD:qK Tryz.prog aa mZ:=by
 intro f args v h _ _ x vals hR ha
 unfold mZ at h
 split at h
 ·exact GH h hR ha
 ·exact LM h hR ha
 ·exact Mw h hR ha
 ·cases h
theorem XI (P:Program) (g:Tmp→TypeId→Nat):iO P ⟨NB P,g⟩:=fun _ _ h=>h
theorem U5:iO Tryz.prog TyH:=XI _ _
theorem CJ:Tryz.prog.follows .mixedOrders=true:=by kernel_rfl
mutual
def DV.eqb:DV→DV→Bool
 | .val (.int k n),.val (.int k' n')=>decide (k=k')&&decide (n=n')
 | .val (.bool b),.val (.bool b')=>b==b'
 | .agg l,.agg l'=>DV.E5 l l'
 | .tup l,.tup l'=>DV.E5 l l'
 | .sl l none ⟨f,i⟩,.sl l' none ⟨f',i'⟩=>f==f'&&decide (i=i')&&DV.E5 l l'
 | _,_=>false
def DV.E5:List DV→List DV→Bool
 | [],[]=>true
 | d::l,d'::l'=>DV.eqb d d'&&DV.E5 l l'
 | _,_=>false
end
mutual
theorem O3:∀ d d':DV,DV.eqb d d'=true→d=d':=by
 intro d d' h
 unfold DV.eqb at h
 split at h
 ·simp at h; obtain⟨rfl,rfl⟩:=h; rfl
 ·simp at h; subst h; rfl
 ·rw[vo _ _ h]
 ·rw[vo _ _ h]
 ·simp at h; obtain⟨⟨rfl,rfl⟩,h⟩:=h; rw[vo _ _ h]
 ·cases h
theorem vo:∀ l l':List DV,DV.E5 l l'=true→l=l':=by
 intro l l' h
 unfold DV.E5 at h
 split at h
 ·rfl
 ·simp at h; rw[O3 _ _ h.1,vo _ _ h.2]
 ·cases h
end
abbrev Row:=FuncId×List DV×DV
def more (bC:bM) (rows:List Row):bM:=fun f args=>match rows.find? (fun r=>decide (r.1=f)&&DV.E5 r.2.1 args) with
 | some r=>some r.2.2
 | none=>bC f args
def KW (P:Program) (aa:Machine→Trace→Prop) (r:Row):Prop :=
 ∀ x vals,Rel x→fR x r.2.1 vals→er P aa x r.1 vals fun y u=>y.S=x.S∧Rel y∧bE x y∧RV y r.2.2 u
theorem Kk {P:Program} {bC:bM} {rows:List Row} (ht:qK P aa bC) (h:∀ r∈rows,KW P aa r):qK P aa (more bC rows):=by
 intro f args v h1 hp hv x vals hR ha
 unfold more at h1
 split at h1
 ·rename_i r hr
  cases h1
  have h2:=List.find?_some hr
  simp only[aB,bJ] at h2
  obtain⟨rfl,h3⟩:=h2
  cases vo _ _ h3
  exact h r (List.mem_of_find?_eq_some hr) x vals hR ha
 ·exact ht f args v h1 hp hv x vals hR ha
noncomputable def Je (bC:bM) (L n:Nat) (r:Row):Bool:=r.2.1.all DV.pure&&match jH bC (cR Tryz.prog TyH bC L n).1 r.1 r.2.1 with
 | some v=>DV.eqb r.2.2 v
 | none=>false
theorem dI {bC:bM} {L n:Nat} {r:Row} (ht:qK Tryz.prog aa bC) (h:Je bC L n r=true):KW Tryz.prog aa r:=by
 unfold Je at h
 simp only[aB] at h
 obtain⟨hp,h⟩:=h
 split at h
 ·rename_i v hv
  cases O3 _ _ h
  exact(Ia ht (AO jx CJ U5 ht n).1 r.1 r.2.1 _ hv hp).2
 ·cases h
abbrev ii (n:Int):DV := .val (.int .i64 n)
abbrev bb (b:Bool):DV := .val (.bool b)
abbrev sn:SF:=⟨false,some false⟩
abbrev su:SF:=⟨false,none⟩
abbrev va:DV:=(.agg [(.sl [(ii (0)),(ii (0)),(ii (0)),(ii (0))] none sn),(.sl [(ii (1)),(ii (2)),(ii (1)),(ii (3))] none sn),(ii (0)),(.sl [(ii (0))] none sn)])
abbrev vb:DV:=(.agg [(.sl [(ii (4)),(ii (3)),(ii (4)),(ii (2))] none sn),(.sl [(ii (0)),(ii (1)),(ii (0)),(ii (0))] none sn),(ii (0)),(.sl [(ii (0)),(ii (1)),(ii (2)),(ii (3))] none sn)])
abbrev Vc:Row:=(56,[],va)
abbrev Vb:Row:=(57,[],vb)
abbrev Vh:Row:=(55,[va,vb,(ii (0))],(.tup [(.agg [(ii (5)),(ii (5))]),(ii (0))]))
abbrev Vi:Row:=(17,[(.sl [va,vb] none sn),(ii (0)),(ii (1))],(.tup [(.sl [(.agg [(ii (0)),(ii (0)),(ii (0))]),(.agg [(ii (0)),(ii (2)),(ii (-1))])] none su),(ii (0))]))
abbrev Vj:Row:=(19,[(.sl [va,vb] none sn),(ii (0)),(ii (1))],(.tup [(ii (2)),(ii (0))]))
abbrev Vg:Row:=(30,[(.sl [va,vb] none sn)],(.tup [(.sl [(.agg [(ii (0)),(ii (0)),(ii (0))]),(.agg [(ii (1)),(ii (0)),(ii (0))])] none su),(ii (0))]))
abbrev Vd:Row:=(33,[(.sl [va,vb] none sn),(.sl [(.agg [(ii (0)),(ii (0)),(ii (0))]),(.agg [(ii (1)),(ii (0)),(ii (1))])] none sn)],(.tup [(ii (1)),(ii (0))]))
abbrev Vf:Row:=(37,[(.sl [va,vb] none sn)],(.tup [(.sl [(.sl [(ii (0)),(ii (0))] none sn),(.sl [(ii (1)),(ii (1))] none sn)] none su),(ii (0))]))
abbrev Va:Row:=(21,[(.sl [(.agg [(ii (0)),(ii (0)),(ii (0))]),(.agg [(ii (0)),(ii (2)),(ii (-1))])] none su),(.sl [(.agg [(ii (0)),(ii (0)),(ii (0))]),(.agg [(ii (0)),(ii (2)),(ii (-1))])] none sn)],(bb true))
abbrev Ve:Row:=(32,[(.sl [(.agg [(ii (0)),(ii (0)),(ii (0))]),(.agg [(ii (1)),(ii (0)),(ii (0))])] none su),(.sl [(.agg [(ii (0)),(ii (0)),(ii (0))]),(.agg [(ii (1)),(ii (0)),(ii (0))])] none sn)],(bb true))
abbrev U9:Row:=(24,[(.sl [(.sl [(ii (0)),(ii (0))] none sn),(.sl [(ii (1)),(ii (1))] none sn)] none su),(.sl [(.sl [(ii (0)),(ii (0))] none sn),(.sl [(ii (1)),(ii (1))] none sn)] none sn)],(bb true))
set_option maxRecDepth 1000000
theorem aa6:Je mZ 100 40 Vc=true:=by decide +kernel
theorem aa5:Je mZ 100 40 Vb=true:=by decide +kernel
theorem abb:Je mZ 100 40 Vh=true:=by decide +kernel
theorem abd:Je mZ 100 40 Vi=true:=by decide +kernel
theorem abe:Je mZ 100 40 Vj=true:=by decide +kernel
theorem aba:Je mZ 100 40 Vg=true:=by decide +kernel
theorem aa7:Je mZ 100 40 Vd=true:=by decide +kernel
theorem aa9:Je mZ 100 40 Vf=true:=by decide +kernel
theorem aa4:Je mZ 100 40 Va=true:=by decide +kernel
theorem aa8:Je mZ 100 40 Ve=true:=by decide +kernel
theorem aa3:Je mZ 100 40 U9=true:=by decide +kernel
abbrev HV:List Row:=[Vc,Vb,Vh,Vi,Vj,Vg,Vd,Vf,Va,Ve,U9]
theorem abc:Je (more mZ HV) 100 2 (12,[],bb true)=true:=by decide +kernel
theorem Pq:qK Tryz.prog aa (more mZ HV):=Kk iD (by
 intro r hr
 simp only[HV,bt,dL,or_false] at hr
 rcases hr with rfl | rfl | rfl | rfl | rfl | rfl | rfl | rfl | rfl | rfl | rfl
 ·exact dI iD aa6
 ·exact dI iD aa5
 ·exact dI iD abb
 ·exact dI iD abd
 ·exact dI iD abe
 ·exact dI iD aba
 ·exact dI iD aa7
 ·exact dI iD aa9
 ·exact dI iD aa4
 ·exact dI iD aa8
 ·exact dI iD aa3)
def Dq:bM:=more mZ [(12,[],bb true)]
theorem SU:qK Tryz.prog aa Dq:=Kk iD (by
 intro r hr
 simp only[bt,dL,or_false] at hr
 subst hr
 exact dI Pq abc)
end Go.Di
end
section
namespace Go.Di
open Go Go.Conc Go.Co Go.Proofs
variable {P:Program} {ty:fI} {x:Cx} {aI:bM} {call:bz} {yf:eE}
structure qL (W w:World):Prop where
 os:w.os=W.os
 output:w.output=W.output
 block:∀ k,k<W.heap.size→w.heap[k]? = W.heap[k]?
theorem Pw {x y:Cx} (M:bE x y) (hS:x.S=[]):qL x.w y.w :=
 ⟨M.env.1,M.env.2,fun k hk=>M.old k hk fun i hi=>absurd (hS▸hi) (fB i)⟩
theorem qL.at {W w:World} (h:qL W w) (d:Nat):qL W (w.at d):=⟨h.os,h.output,h.block⟩
theorem vU {Post:Value→World→Prop} (hP:Plain P) (ee:iO P ty) {x0:Cx} {b:Frame} {todo:List Item} {fn:Func} {env:List DV} {l:List DV} (hb:b.kind = .normal) (hf:P.funcs[b.fn]? = some fn) (hi:P.inits.idxOf? b.fn=none) {Sr:ak} {u:Value} :
  ∀ (ds:List Nat) {a:Act} {x:Cx},x.S=Sr→Rel x→bE x0 x→fR x env a.tmps→qO x0.S.length x ds a.defers→qE ty env Sr fn.results.toList=some l →
   (∀ y v,y.S=Sr→Rel y→bE x0 y→RV y (oneOf l) v→v=u∧Post u y.w)→gM P (yR P Post) () (G { b.at a todo with mode := .returning } []) x.w
 | [],a,x,hS,hR,hM,he,hd,hr,hn=>by
  have Hw:a.defers=[]:=hd.1
  have key:∀ n,(results fn a.tmps).run P (x.w.at n) = .ok u (x.w.at n)∧Post u (x.w.at n):=fun n=>by
   obtain⟨v,h1,h2⟩:=A4 (x:=x.dr n) ee (hR.dr n) (he.mono (ej x n)) (l:=l) (by show qE ty env x.S _=_; rw[hS]; exact hr)
   obtain⟨rfl,h3⟩:=hn (x.dr n) v hS (hR.dr n) (hM.trans (ej x n)) h2
   exact⟨h1,h3⟩
  exact Yg (v:=u) (fun d=>⟨rfl,Hw,hb,fn,hf,(key d).1⟩) hi fun d=>(key d).2
 | id::ds,a,x,hS,hR,hM,he,hd,hr,hn=>by
  obtain⟨q1,q2,q3⟩:=hd
  obtain⟨r1,r2,r3⟩:=q3 id (by simp)
  refine gP hP fun n => ?_
  have kE:=hR.dr n
  have UT:=hM.trans (ej x n)
  obtain⟨t1,t2,t3⟩:=JP (x:=x.dr n) UT kE r1 r2
  have hg:=ir (P:=P) (w:=x.w.at n) (show (x.w.at n).heap[x.μ id]? = _ from r3) (by simp)
  have hs:=jo (P:=P) (w:=x.w.at n) (o := .deferred none) (show (x.w.at n).heap[x.μ id]? = _ from r3) (by simp)
  have Jt:(Instr.takeDeferred (x.μ id)).run P (x.w.at n) = .ok [] (bR (x.w.at n) (x.μ id) (.deferred none)):=by
   simp only[Instr.takeDeferred,Sem.run_bind,hg,Result.andThen_ok,hs,Sem.run_pure]
  obtain⟨es,hst⟩:=J3 (P:=P) (b:=b) (a:=a) (todo:=todo) (cs:=[]) (ds:=ds.map fun id=>{ target := .collected (x.μ id),args:=#[] }) (by rw[q1]; rfl) Jt
  refine⟨_,_,_,es,hst,?_⟩
  have Ht:=List.nodup_cons.1 q2
  exact vU hP ee hb hf hi ds (x:={ x.dr n with w:=bR (x.w.at n) (x.μ id) (.deferred none) }) (a:={ a with defers:=ds.map fun id=>{ target := .collected (x.μ id),args:=#[] } }) hS t1 t2 ⟨he.1,fun j c hc=>t3 _ _ (RV.mono (ej x n) (he.2 j c hc))⟩
   ⟨rfl,Ht.2,fun i hi=>by
    obtain⟨u1,u2,u3⟩:=q3 i (by simp[hi])
    have hne:x.μ i≠x.μ id:=fun e=>Ht.1 (hR.inj i id (aS u2 (by simp)) (aS r2 (by simp)) e▸hi)
    exact⟨u1,u2,(fG _ _ _ hne).trans u3⟩⟩ hr hn
theorem QN {Post:Value→World→Prop} (hP:Plain P) (ee:iO P ty) (hc:gL P (yR P Post) call) (j5:∀ id ops draw,uW P (yR P Post) ty aI call yf id ops draw) {L:Nat} {f:FuncId} {fn:Func} (hf:P.funcs[f]? = some fn) (hi:P.inits.idxOf? f=none)
  {args:List DV} {S S':ak} {v:DV} (h:qJ P ty aI call yf L f fn args S=some (v,S'))
  {vals:Array Value} (hR:Rel x) (hS:x.S=S) (ha:fR x args vals) {u:Value} (hu:∀ y u',y.S=S'→Rel y→bE x y→RV y v u'→u'=u∧Post u y.w):gM P (yR P Post) () (G (Frame.enter P f vals .normal) []) x.w:=by
 subst hS
 unfold qJ at h
 split at h
 ·rename_i c hb
  rw[enter_at vals hf hb,← Frame.atR_of_none (b:=base f) rfl]
  have he:fR x (args++List.replicate (fn.ntmps-args.length) aX) (vals++Array.replicate (fn.ntmps-vals.size) undef):=by
   refine kA ha ⟨by simp[ha.1],fun j c hc => ?_⟩
   rw[nH] at hc
   split at hc
   ·rename_i hj
    cases hc
    have:j<fn.ntmps-vals.size:=by rw[ha.1]; exact hj
    have e:(Array.replicate (fn.ntmps-vals.size) undef).getD j undef=undef:=by simp[aT,this]
    rw[e]
    exact .val rfl
   ·cases hc
  have key:∀ e aC S1,ct P ty aI call yf L f false c (args++List.replicate (fn.ntmps-args.length) aX) x.S=some (e,aC,S1)→(e = .normal∨e = .ret)→(qE ty aC S1 fn.results.toList).map (fun l=>(oneOf l,S1))=some (v,S') →
    gM P (yR P Post) () (G ((base f).atR { tmps:=vals++Array.replicate (fn.ntmps-vals.size) undef,defers:=[] } [.code c]) []) x.w:=by
   intro e aC S1 h1 ZK h2
   simp only[ah,av] at h2
   obtain⟨l,h3,rfl,rfl⟩:=h2
   refine vH (n0:=x.S.length) (ds:=[]) (b:=base f) (cs:=[]) (gW:=false) hP hc (by simp[base]) rfl (fun _=>rfl) c (vA j5 c) h1 hR he (xA _ _) (ai _) fun y a' gT q1 q2 q3 q4 q5 => ?_
   have jl:∀ todo,gM P (yR P Post) () (G { (base f).at a' todo with mode := .returning } []) y.w:=fun todo =>
    vU hP ee (x0:=x) (b:=base f) (env:=aC) (l:=l) (Sr:=S1) rfl hf hi gT q1 q2 q3 q4 q5 h3 fun z u r1 r2 r3 r4=>hu z u r1 r2 r3 r4
   rcases ZK with rfl | rfl
   ·show gM P (yR P Post) () (G ((base f).atR a' []) []) y.w
    rw[Frame.atR_of_none (b:=base f) rfl]
    exact eH hP (fun w=>⟨_,stepG_end⟩) (jl _)
   ·intro k'
    rw[Frame.atR_of_none (b:=base f) rfl]
    exact eH hP (fun w=>⟨_,stepG_ret'⟩) (jl _)
  split at h
  ·rename_i aC S1 h1
   exact key _ _ _ h1 (.inl rfl) h
  ·rename_i aC S1 h1
   exact key _ _ _ h1 (.inr rfl) h
  ·cases h
 ·cases h
theorem Mp {S:ak} {v:DV} {b:Bool} (h:(iY S v).strip = .val (.bool b)):v = .val (.bool b):=by
 unfold iY at h
 split at h
 ·split at h
  ·split at h<;>simp[DV.strip,DV.cN] at h
  ·simp[DV.strip,DV.cN] at h
 ·cases v<;>simp_all [DV.strip,DV.cN]
theorem IL {S:ak} {v:DV} {b:Bool} (h:(qH S v).strip = .val (.bool b)):v = .val (.bool b):=by
 have e:(∀ l,v ≠ .agg l)→(∀ l,v ≠ .tup l)→qH S v=iY S v:=fun a b=>by
  cases v<;>first | rfl | exact(a _ rfl).elim | exact(b _ rfl).elim
 by_cases ha:∃ l,v = .agg l
 ·obtain⟨l,rfl⟩:=ha
  simp[qH,qf,DV.strip,DV.cN] at h
 ·by_cases ht:∃ l,v = .tup l
  ·obtain⟨l,rfl⟩:=ht
   simp[qH,DV.strip] at h
  ·rw[e (fun l h=>ha ⟨l,h⟩) (fun l h=>ht ⟨l,h⟩)] at h
   exact Mp h
theorem Pn (hP:Plain P) (hm:P.follows .mixedOrders=true) (ee:iO P ty) {bC:bM} (ht:∀ aa,qK P aa bC) {L n:Nat} {f:FuncId} {args:List DV} {b:Bool} (h0:bC f args=none) (hi:P.inits.idxOf? f=none)
  (h:jH bC (cR P ty bC L (n+1)).1 f args=some (.val (.bool b))) {vals:Array Value} (hR:Rel x) (hS:x.S=[]) (ha:fR x args vals) :
  gM P (yR P fun v w=>v = .bool b∧qL x.w w) () (G (Frame.enter P f vals .normal) []) x.w:=by
 unfold jH at h
 rw[h0] at h
 simp only at h
 split at h
 ·rename_i v S' h1
  split at h
  ·simp only[az] at h
   have hv:v = .val (.bool b):=IL h
   subst hv
   simp only[cR] at h1
   split at h1
   ·rename_i fn hf
    obtain⟨UC,ihy⟩:=AO (aa:=yR P fun v w=>v = .bool b∧qL x.w w) hP hm ee (ht _) (L:=L) n
    have Bu:=Ia (ht _) UC
    have j5:∀ id ops draw,uW P (yR P fun v w=>v = .bool b∧qL x.w w) ty (jH bC (cR P ty bC L n).1) (cR P ty bC L n).1 (cR P ty bC L n).2 id ops draw:=fun id ops draw=>OO hP hm ee UC Bu ihy id ops draw
    refine QN (u := .bool b) hP ee UC j5 hf hi h1 hR hS ha fun y u' q1 q2 q3 q4 => ?_
    cases q4
    exact⟨rfl,rfl,Pw q3 hS⟩
   ·cases h1
  ·cases h
 ·cases h
end Go.Di
end
