import Derived.Test.YtedcgbkilmlbhaaGreatPk32
import Derived.Test.YtedcgbkilmlbhaaGreatPk05
import Derived.Test.YtedcgbkilmlbhaaGreatPk21
section
namespace Go.Di
open Go Go.Conc Go.Co Go.Proofs
variable {af:Machine→Trace→Prop} {x:Cx}
def nv:bV:=fun f args=>match f,args with
 | 60,[a,b]=>Fo a b
 | 133,[a]=>Vh a
 | 43,[a]=>Vz a
 | _,_=>none
theorem jI:rI Tryz.prog af nv:=by
 intro f args v h _ _ x vals hR ha
 unfold nv at h
 split at h
 ·exact IY h hR ha
 ·exact N5 h hR ha
 ·exact OT h hR ha
 ·cases h
theorem aaE (P:Program) (g:Tmp→TypeId→Nat):j4 P ⟨A8 P,g⟩:=fun _ _ h=>h
theorem Bn:j4 Tryz.prog TyH:=aaE _ _
theorem ue:Tryz.prog.follows .mixedOrders=true:=by kernel_rfl
mutual
def DV.eqb:DV→DV→Bool
 | .val (.int k n),.val (.int k' n')=>decide (k=k')&&decide (n=n')
 | .val (.bool b),.val (.bool b')=>b==b'
 | .agg l,.agg l'=>DV.GY l l'
 | .gd l,.gd l'=>DV.GY l l'
 | .sl l none ⟨f,i⟩,.sl l' none ⟨f',i'⟩=>f==f'&&decide (i=i')&&DV.GY l l'
 | _,_=>false
def DV.GY:List DV→List DV→Bool
 | [],[]=>true
 | d::l,d'::l'=>DV.eqb d d'&&DV.GY l l'
 | _,_=>false
end
mutual
theorem RI:∀ d d':DV,DV.eqb d d'=true→d=d':=by
 intro d d' h
 unfold DV.eqb at h
 split at h
 ·simp at h; obtain⟨rfl,rfl⟩:=h; rfl
 ·simp at h; subst h; rfl
 ·rw[xo _ _ h]
 ·rw[xo _ _ h]
 ·simp at h; obtain⟨⟨rfl,rfl⟩,h⟩:=h; rw[xo _ _ h]
 ·cases h
theorem xo:∀ l l':List DV,DV.GY l l'=true→l=l':=by
 intro l l' h
 unfold DV.GY at h
 split at h
 ·rfl
 ·simp at h; rw[RI _ _ h.1,xo _ _ h.2]
 ·cases h
end
abbrev Row:=FuncId×List DV×DV
def more (bG:bV) (rows:List Row):bV:=fun f args=>match rows.find? (fun r=>decide (r.1=f)&&DV.GY r.2.1 args) with
 | some r=>some r.2.2
 | none=>bG f args
def M5 (P:Program) (af:Machine→Trace→Prop) (r:Row):Prop :=
 ∀ x vals,Rel x→gn x r.2.1 vals→eH P af x r.1 vals fun y u=>y.S=x.S∧Rel y∧bZ x y∧RV y r.2.2 u
theorem MC {P:Program} {bG:bV} {rows:List Row} (ht:rI P af bG) (h:∀ r∈rows,M5 P af r):rI P af (more bG rows):=by
 intro f args v h1 hp hv x vals hR ha
 unfold more at h1
 split at h1
 ·rename_i r hr
  cases h1
  have h2:=List.find?_some hr
  simp only[aI,bJ] at h2
  obtain⟨rfl,h3⟩:=h2
  cases xo _ _ h3
  exact h r (List.mem_of_find?_eq_some hr) x vals hR ha
 ·exact ht f args v h1 hp hv x vals hR ha
noncomputable def Lb (bG:bV) (L n:Nat) (r:Row):Bool:=r.2.1.all DV.pure&&match kS bG (ee Tryz.prog TyH bG L n).1 r.1 r.2.1 with
 | some v=>DV.eqb r.2.2 v
 | none=>false
theorem eC {bG:bV} {L n:Nat} {r:Row} (ht:rI Tryz.prog af bG) (h:Lb bG L n r=true):M5 Tryz.prog af r:=by
 unfold Lb at h
 simp only[aI] at h
 obtain⟨hp,h⟩:=h
 split at h
 ·rename_i v hv
  cases RI _ _ h
  exact(FB ht (xE iq ue Bn ht n).1 r.1 r.2.1 _ hv hp).2
 ·cases h
abbrev ii (n:Int):DV := .val (.int .i64 n)
abbrev bb (b:Bool):DV := .val (.bool b)
abbrev sn:SF:=⟨false,some false⟩
abbrev su:SF:=⟨false,none⟩
abbrev va:DV:=(.agg [(.sl [(ii (0)),(ii (0)),(ii (0)),(ii (0))] none sn),(.sl [(ii (1)),(ii (2)),(ii (1)),(ii (3))] none sn),(ii (0)),(.sl [(ii (0))] none sn)])
abbrev vb:DV:=(.agg [(.sl [(ii (4)),(ii (3)),(ii (4)),(ii (2))] none sn),(.sl [(ii (0)),(ii (1)),(ii (0)),(ii (0))] none sn),(ii (0)),(.sl [(ii (0)),(ii (1)),(ii (2)),(ii (3))] none sn)])
abbrev Ya:Row:=(56,[],va)
abbrev X9:Row:=(57,[],vb)
abbrev Yf:Row:=(55,[va,vb,(ii (0))],(.gd [(.agg [(ii (5)),(ii (5))]),(ii (0))]))
abbrev Yg:Row:=(17,[(.sl [va,vb] none sn),(ii (0)),(ii (1))],(.gd [(.sl [(.agg [(ii (0)),(ii (0)),(ii (0))]),(.agg [(ii (0)),(ii (2)),(ii (-1))])] none su),(ii (0))]))
abbrev Yh:Row:=(19,[(.sl [va,vb] none sn),(ii (0)),(ii (1))],(.gd [(ii (2)),(ii (0))]))
abbrev Ye:Row:=(30,[(.sl [va,vb] none sn)],(.gd [(.sl [(.agg [(ii (0)),(ii (0)),(ii (0))]),(.agg [(ii (1)),(ii (0)),(ii (0))])] none su),(ii (0))]))
abbrev Yb:Row:=(33,[(.sl [va,vb] none sn),(.sl [(.agg [(ii (0)),(ii (0)),(ii (0))]),(.agg [(ii (1)),(ii (0)),(ii (1))])] none sn)],(.gd [(ii (1)),(ii (0))]))
abbrev Yd:Row:=(37,[(.sl [va,vb] none sn)],(.gd [(.sl [(.sl [(ii (0)),(ii (0))] none sn),(.sl [(ii (1)),(ii (1))] none sn)] none su),(ii (0))]))
abbrev X8:Row:=(21,[(.sl [(.agg [(ii (0)),(ii (0)),(ii (0))]),(.agg [(ii (0)),(ii (2)),(ii (-1))])] none su),(.sl [(.agg [(ii (0)),(ii (0)),(ii (0))]),(.agg [(ii (0)),(ii (2)),(ii (-1))])] none sn)],(bb true))
abbrev Yc:Row:=(32,[(.sl [(.agg [(ii (0)),(ii (0)),(ii (0))]),(.agg [(ii (1)),(ii (0)),(ii (0))])] none su),(.sl [(.agg [(ii (0)),(ii (0)),(ii (0))]),(.agg [(ii (1)),(ii (0)),(ii (0))])] none sn)],(bb true))
abbrev X7:Row:=(24,[(.sl [(.sl [(ii (0)),(ii (0))] none sn),(.sl [(ii (1)),(ii (1))] none sn)] none su),(.sl [(.sl [(ii (0)),(ii (0))] none sn),(.sl [(ii (1)),(ii (1))] none sn)] none sn)],(bb true))
set_option maxRecDepth 1000000
theorem acZ:Lb nv 100 40 Ya=true:=by decide +kernel
theorem acY:Lb nv 100 40 X9=true:=by decide +kernel
theorem ac4:Lb nv 100 40 Yf=true:=by decide +kernel
theorem ac6:Lb nv 100 40 Yg=true:=by decide +kernel
theorem ac7:Lb nv 100 40 Yh=true:=by decide +kernel
theorem ac3:Lb nv 100 40 Ye=true:=by decide +kernel
theorem ac0:Lb nv 100 40 Yb=true:=by decide +kernel
theorem ac2:Lb nv 100 40 Yd=true:=by decide +kernel
theorem acX:Lb nv 100 40 X8=true:=by decide +kernel
theorem ac1:Lb nv 100 40 Yc=true:=by decide +kernel
theorem acW:Lb nv 100 40 X7=true:=by decide +kernel
abbrev JX:List Row:=[Ya,X9,Yf,Yg,Yh,Ye,Yb,Yd,X8,Yc,X7]
theorem ac5:Lb (more nv JX) 100 2 (12,[],bb true)=true:=by decide +kernel
theorem Sa:rI Tryz.prog af (more nv JX):=MC jI (by
 intro r hr
 simp only[JX,bI,ep,or_false] at hr
 rcases hr with rfl | rfl | rfl | rfl | rfl | rfl | rfl | rfl | rfl | rfl | rfl
 ·exact eC jI acZ
 ·exact eC jI acY
 ·exact eC jI ac4
 ·exact eC jI ac6
 ·exact eC jI ac7
 ·exact eC jI ac3
 ·exact eC jI ac0
 ·exact eC jI ac2
 ·exact eC jI acX
 ·exact eC jI ac1
 ·exact eC jI acW)
def j8:bV:=more nv [(12,[],bb true)]
theorem FN:rI Tryz.prog af j8:=MC jI (by
 intro r hr
 simp only[bI,ep,or_false] at hr
 subst hr
 exact eC Sa ac5)
end Go.Di
end
section
namespace Go.Di
open Go Go.Conc Go.Co Go.Proofs
variable {P:Program} {ty:ir} {x:Cx} {aM:bV} {call:bP} {yf:fI}
structure sB (W w:World):Prop where
 os:w.os=W.os
 output:w.output=W.output
 block:∀ k,k<W.heap.size→w.heap[k]? = W.heap[k]?
theorem Sf {x y:Cx} (M:bZ x y) (hS:x.S=[]):sB x.w y.w :=
 ⟨M.env.1,M.env.2,fun k hk=>M.old k hk fun i hi=>absurd (hS▸hi) (gK i)⟩
theorem sB.at {W w:World} (h:sB W w) (d:Nat):sB W (w.at d):=⟨h.os,h.output,h.block⟩
theorem xR {Post:Value→World→Prop} (hP:Plain P) (eY:j4 P ty) {x0:Cx} {b:Frame} {todo:List Item} {fn:Func} {env:List DV} {l:List DV} (hb:b.kind = .normal) (hf:P.funcs[b.fn]? = some fn) (hi:P.inits.idxOf? b.fn=none) {Sr:ax} {u:Value} :
  ∀ (ds:List Nat) {a:Act} {x:Cx},x.S=Sr→Rel x→bZ x0 x→gn x env a.tmps→oN x0.S.length x ds a.defers→si ty env Sr fn.results.toList=some l →
   (∀ y v,y.S=Sr→Rel y→bZ x0 y→RV y (oneOf l) v→v=u∧Post u y.w)→iz P (Am P Post) () (G { b.at a todo with mode := .returning } []) x.w
 | [],a,x,hS,hR,hM,he,hd,hr,hn=>by
  have Jy:a.defers=[]:=hd.1
  have key:∀ n,(results fn a.tmps).run P (x.w.at n) = .ok u (x.w.at n)∧Post u (x.w.at n):=fun n=>by
   obtain⟨v,h1,h2⟩:=CC (x:=x.dr n) eY (hR.dr n) (he.mono (fe x n)) (l:=l) (by show si ty env x.S _=_; rw[hS]; exact hr)
   obtain⟨rfl,h3⟩:=hn (x.dr n) v hS (hR.dr n) (hM.trans (fe x n)) h2
   exact⟨h1,h3⟩
  exact abh (v:=u) (fun d=>⟨rfl,Jy,hb,fn,hf,(key d).1⟩) hi fun d=>(key d).2
 | id::ds,a,x,hS,hR,hM,he,hd,hr,hn=>by
  obtain⟨q1,q2,q3⟩:=hd
  obtain⟨r1,r2,r3⟩:=q3 id (by simp)
  refine iY hP fun n => ?_
  have mP:=hR.dr n
  have XU:=hM.trans (fe x n)
  obtain⟨t1,t2,t3⟩:=L6 (x:=x.dr n) XU mP r1 r2
  have hg:=jw (P:=P) (w:=x.w.at n) (show (x.w.at n).heap[x.μ id]? = _ from r3) (by simp)
  have hs:=kF (P:=P) (w:=x.w.at n) (o := .deferred none) (show (x.w.at n).heap[x.μ id]? = _ from r3) (by simp)
  have LG:(Instr.takeDeferred (x.μ id)).run P (x.w.at n) = .ok [] (cv (x.w.at n) (x.μ id) (.deferred none)):=by
   simp only[Instr.takeDeferred,Sem.run_bind,hg,Result.andThen_ok,hs,Sem.run_pure]
  obtain⟨es,hst⟩:=Mo (P:=P) (b:=b) (a:=a) (todo:=todo) (cs:=[]) (ds:=ds.map fun id=>{ target := .collected (x.μ id),args:=#[] }) (by rw[q1]; rfl) LG
  refine⟨_,_,_,es,hst,?_⟩
  have Ur:=List.nodup_cons.1 q2
  exact xR hP eY hb hf hi ds (x:={ x.dr n with w:=cv (x.w.at n) (x.μ id) (.deferred none) }) (a:={ a with defers:=ds.map fun id=>{ target := .collected (x.μ id),args:=#[] } }) hS t1 t2 ⟨he.1,fun j c hc=>t3 _ _ (RV.mono (fe x n) (he.2 j c hc))⟩
   ⟨rfl,Ur.2,fun i hi=>by
    obtain⟨u1,u2,u3⟩:=q3 i (by simp[hi])
    have hne:x.μ i≠x.μ id:=fun e=>Ur.1 (hR.inj i id (aZ u2 (by simp)) (aZ r2 (by simp)) e▸hi)
    exact⟨u1,u2,(gN _ _ _ hne).trans u3⟩⟩ hr hn
theorem Uc {Post:Value→World→Prop} (hP:Plain P) (eY:j4 P ty) (hc:jr P (Am P Post) call) (je:∀ id ops draw,sC P (Am P Post) ty aM call yf id ops draw) {L:Nat} {f:FuncId} {fn:Func} (hf:P.funcs[f]? = some fn) (hi:P.inits.idxOf? f=none)
  {args:List DV} {S S':ax} {v:DV} (h:uW P ty aM call yf L f fn args S=some (v,S'))
  {vals:Array Value} (hR:Rel x) (hS:x.S=S) (ha:gn x args vals) {u:Value} (hu:∀ y u',y.S=S'→Rel y→bZ x y→RV y v u'→u'=u∧Post u y.w):iz P (Am P Post) () (G (Frame.enter P f vals .normal) []) x.w:=by
 subst hS
 unfold uW at h
 split at h
 ·rename_i c hb
  rw[enter_at vals hf hb,← Frame.atR_of_none (b:=base f) rfl]
  have he:gn x (args++List.replicate (fn.ntmps-args.length) bh) (vals++Array.replicate (fn.ntmps-vals.size) undef):=by
   refine kE ha ⟨by simp[ha.1],fun j c hc => ?_⟩
   rw[nK] at hc
   split at hc
   ·rename_i hj
    cases hc
    have:j<fn.ntmps-vals.size:=by rw[ha.1]; exact hj
    have e:(Array.replicate (fn.ntmps-vals.size) undef).getD j undef=undef:=by simp[bg,this]
    rw[e]
    exact .val rfl
   ·cases hc
  have key:∀ e aD S1,ct P ty aM call yf L f false c (args++List.replicate (fn.ntmps-args.length) bh) x.S=some (e,aD,S1)→(e = .normal∨e = .ret)→(si ty aD S1 fn.results.toList).map (fun l=>(oneOf l,S1))=some (v,S') →
    iz P (Am P Post) () (G ((base f).atR { tmps:=vals++Array.replicate (fn.ntmps-vals.size) undef,defers:=[] } [.code c]) []) x.w:=by
   intro e aD S1 h1 he1 h2
   simp only[ai,ay] at h2
   obtain⟨l,h3,rfl,rfl⟩:=h2
   refine oA (n0:=x.S.length) (ds:=[]) (b:=base f) (cs:=[]) (iJ:=false) hP hc (by simp[base]) rfl (fun _=>rfl) c (ow je c) h1 hR he (uj _ _) (ak _) fun y a' gR q1 q2 q3 q4 q5 => ?_
   have iU:∀ todo,iz P (Am P Post) () (G { (base f).at a' todo with mode := .returning } []) y.w:=fun todo =>
    xR hP eY (x0:=x) (b:=base f) (env:=aD) (l:=l) (Sr:=S1) rfl hf hi gR q1 q2 q3 q4 q5 h3 fun z u r1 r2 r3 r4=>hu z u r1 r2 r3 r4
   rcases he1 with rfl | rfl
   ·show iz P (Am P Post) () (G ((base f).atR a' []) []) y.w
    rw[Frame.atR_of_none (b:=base f) rfl]
    exact dY hP (fun w=>⟨_,stepG_end⟩) (iU _)
   ·intro k'
    rw[Frame.atR_of_none (b:=base f) rfl]
    exact dY hP (fun w=>⟨_,stepG_ret'⟩) (iU _)
  split at h
  ·rename_i aD S1 h1
   exact key _ _ _ h1 (.inl rfl) h
  ·rename_i aD S1 h1
   exact key _ _ _ h1 (.inr rfl) h
  ·cases h
 ·cases h
theorem OH {S:ax} {v:DV} {b:Bool} (h:(lS S v).strip = .val (.bool b)):v = .val (.bool b):=by
 unfold lS at h
 split at h
 ·split at h
  ·split at h<;>simp[DV.strip,DV.dG] at h
  ·simp[DV.strip,DV.dG] at h
 ·cases v<;>simp_all [DV.strip,DV.dG]
theorem R7 (hP:Plain P) (hm:P.follows .mixedOrders=true) (eY:j4 P ty) {bG:bV} (ht:∀ af,rI P af bG) {L n:Nat} {f:FuncId} {args:List DV} {b:Bool} (h0:bG f args=none) (hi:P.inits.idxOf? f=none)
  (h:kS bG (ee P ty bG L (n+1)).1 f args=some (.val (.bool b))) {vals:Array Value} (hR:Rel x) (hS:x.S=[]) (ha:gn x args vals) :
  iz P (Am P fun v w=>v = .bool b∧sB x.w w) () (G (Frame.enter P f vals .normal) []) x.w:=by
 unfold kS at h
 rw[h0] at h
 simp only at h
 split at h
 ·rename_i v S' h1
  split at h
  ·simp only[aB] at h
   have hv:v = .val (.bool b):=OH h
   subst hv
   simp only[ee] at h1
   split at h1
   ·rename_i fn hf
    obtain⟨XF,ihy⟩:=xE (af:=Am P fun v w=>v = .bool b∧sB x.w w) hP hm eY (ht _) (L:=L) n
    have C4:=FB (ht _) XF
    have je:∀ id ops draw,sC P (Am P fun v w=>v = .bool b∧sB x.w w) ty (kS bG (ee P ty bG L n).1) (ee P ty bG L n).1 (ee P ty bG L n).2 id ops draw:=fun id ops draw=>JZ hP hm eY XF C4 ihy id ops draw
    refine Uc (u := .bool b) hP eY XF je hf hi h1 hR hS ha fun y u' q1 q2 q3 q4 => ?_
    cases q4
    exact⟨rfl,rfl,Sf q3 hS⟩
   ·cases h1
  ·cases h
 ·cases h
end Go.Di
end
