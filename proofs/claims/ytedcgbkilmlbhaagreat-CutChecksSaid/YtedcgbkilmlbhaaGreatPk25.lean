import Derived.Test.YtedcgbkilmlbhaaGreatPk24
import Derived.RangeFuncIn
section
namespace Go.Di
open Go Go.Conc Go.Co
variable {P:Program} {af:Machine→Trace→Prop} {ty:eY} {x:Cx} {aC:bk} {call:aW} {yf:dR}
def oQ (P:Program) (af:Machine→Trace→Prop) (ty:eY) (aC:bk) (call:aW) (yf:dR) (id:Nat) (ops:Array Oper) (draw:Bool):Prop :=
 ∀ {env ax:List DV} {S':ak} {x:Cx} {a:Act} {b:Frame} {k:List Item} {cs:List Frame},lX P ty aC call yf ops draw env x.S=some (ax,S')→b.kind ≠ .early→Rel x→en x env a.tmps →
  (∀ y a',y.S=S'→Rel y→bh x y→en y ax a'.tmps→a'.defers=a.defers→ff P af () (G (b.atR a' k) cs) y.w)→ff P af () (G (b.atR a (.code (.region id ops draw)::k)) cs) x.w
def yL (P:Program) (af:Machine→Trace→Prop) (ty:eY) (aC:bk) (call:aW) (yf:dR):Code→Prop
 | .region id ops draw=>oQ P af ty aC call yf id ops draw
 | .seq a b | .cond _ a b=>yL P af ty aC call yf a∧yL P af ty aC call yf b
 | .block _ c | .loop c | .scope c=>yL P af ty aC call yf c
 | _=>True
theorem KP (hP:Plain P) (dx:gY P ty) (hc:gz P af call) (hi:tN P af aC) (F6:tJ P af yf) (id:Nat) (ops:Array Oper):oQ P af ty aC call yf id ops false:=by
 intro env ax S' x a b k cs h hk hR he hn
 simp only[lX,Bool.false_eq_true,if_false] at h
 refine cF hP (fun w=>⟨_,Bn⟩) ?_
 have:=CP hP dx hc hi F6 hk ops.toList [] rfl h hR he hn
 rw[List.range_eq_range']
 simpa using this
def D2 (P:Program) (af:Machine→Trace→Prop) (b:Frame) (k:List Item) (cs:List Frame):DX→Act→World→Prop
 | .normal,a,w=>ff P af () (G (b.atR a k) cs) w
 | .exit id,a,w=>∀ k',exitTo id k'=exitTo id k→ff P af () (G (b.atR a (.code (.exit id)::k')) cs) w
 | .ret,a,w=>∀ k',ff P af () (G (b.atR a (.code .ret::k')) cs) w
theorem D2.push {b:Frame} {k:List Item} {cs:List Frame} {e:DX} {a:Act} {w:World} {i:Item} (hi:∀ id,exitTo id (i::k)=exitTo id k) (he:e ≠ .normal) (h:D2 P af b k cs e a w):D2 P af b (i::k) cs e a w:=by
 cases e with
 | normal=>exact absurd rfl he
 | exit id=>exact fun k' pZ=>h k' (pZ.trans (hi id))
 | ret=>exact h
def lU (n0:Nat) (x:Cx) (ds:List Nat) (l:List Deferred):Prop:=l=ds.map (fun id=>{ target := .collected (x.μ id),args:=#[] })∧ds.Nodup∧∀ id∈ds,n0≤id∧x.S[id]? = some .defer∧x.w.heap[x.μ id]? = some (.deferred (some []))
theorem lU.mono {n0:Nat} {y:Cx} (M:bh x y) {ds:List Nat} {l:List Deferred} (h:lU n0 x ds l):lU n0 y ds l:=by
 obtain⟨h1,h2,h3⟩:=h
 have hμ:∀ id∈ds,y.μ id=x.μ id:=fun id hid=>(M.dg id _ (h3 id hid).2.1 rfl).1
 refine⟨?_,h2,fun id hid => ?_⟩
 ·rw[h1]
  exact List.map_congr_left fun id hid=>by rw[hμ id hid]
 ·obtain⟨q1,q2,q3⟩:=h3 id hid
  obtain⟨r1,⟨b',r2,r3⟩,r4⟩:=M.dg id _ q2 rfl
  have:b' = .defer:=by cases b'<;>first | rfl | exact r3.elim
  subst this
  exact⟨q1,r2,by rw[hμ id hid,r4 rfl]; exact q3⟩
theorem qC (n0:Nat) (x:Cx):lU n0 x [] []:=⟨rfl,List.nodup_nil,by simp⟩
theorem Dg {b : Frame} {a : Act} {k : List Item} {cs : List Frame} {w : World} {g : Operand} {ps : Array Tmp} {assign body : Code} {f : FuncId} {fs vs : Array Value} {fn : Func} {c : Code} (hk : b.kind ≠ .early) (hr : b.roundOf = none) (hg : a.eval g = .func (.func f) fs vs) (hf : P.funcs[f]? = some fn) (hb : fn.body = some c) (tC : (fn.name == "runtime.NumGoroutine") = false) :
  ∃ es,stepG P true (G (b.atR a (.code (.rangeFunc g ps assign body)::k)) cs) w =
   .go (G (Frame.enter P f (fs++#[.func (.yield (w.heap.size+1)) #[] #[]]++vs) .normal) (b.atR { a with defers:={ target := .collected w.heap.size,args:=#[] }::a.defers } (.inRangeFunc (w.heap.size+1)::k)::cs))
    ((w.alloc (.deferred (some []))).alloc (.loop { state := .ready,pending:=none,fn:=b.fn,tmps:=a.tmps,params:=ps,assign,body,defers:=w.heap.size })) es:=by
 have pZ:(b.kind==CallKind.early)=false:=by simpa using hk
 have qa:=Frame.eval_atR b { a with defers:={ target := .collected w.heap.size,args:=#[] }::a.defers } (.inRangeFunc (w.heap.size+1)::k)
 simp only[Frame.atR,hr] at qa
 have acr:({ tmps:=a.tmps,defers:={ target := .collected w.heap.size,args:=#[] }::a.defers }:Act).eval g = .func (.func f) fs vs:=by
  rw[← hg]; cases g<;>rfl
 have Mi:∀ (w2:World),(do let d ← resolve ({ tmps:=a.tmps,defers:={ target := .collected w.heap.size,args:=#[] }::a.defers }:Act).eval { callee := .value g,args:=#[.const (.func (.yield (w.heap.size+1)) #[] #[])],argTypes:=#[] } 0; invoke d.target d.args:Sem Next).run P w2 = .ok (.enter f (fs++#[.func (.yield (w.heap.size+1)) #[] #[]]++vs)) w2:=by
  intro w2
  have acj:∀ (a:Act) (v:Value),a.eval (.const v)=v:=fun _ _=>rfl
  have hn2 : ¬ fn.name = "runtime.NumGoroutine" := by simpa using tC
  simp[resolve,acr,acj,Deferred.ofValue,invoke,callFunc,hf,hn2,hb]
 have GO:(Instr.enterLoop b.fn a.tmps ps assign body none).run P w = .ok (w.heap.size+1,[{ target := .collected w.heap.size,args:=#[] }])
   ((w.alloc (.deferred (some []))).alloc (.loop { state := .ready,pending:=none,fn:=b.fn,tmps:=a.tmps,params:=ps,assign,body,defers:=w.heap.size })):=by
  simp[Instr.enterLoop]
 simp only[G,stepG,stepG.exec,Frame.atR,hr,Sem.runT_eq,GO,stepG.apply,qa,if_true,Mi,pZ,List.singleton_append,GStep.after,Bool.false_eq_true,if_false]
 exact⟨_,rfl⟩
end Go.Di
end
section
namespace Go.Di
open Go Go.Conc Go.Co
variable {P:Program} {af:Machine→Trace→Prop} {ty:eY} {x:Cx} {aC:bk} {call:aW} {yf:dR}
theorem FI {b:Frame} {a:Act} {k:List Item} {cs:List Frame} {w w':World} {l:Nat} {jump:Option Code} (h:(Instr.endLoop l).run P w = .ok jump w') :
  ∃ es,stepG P true (G (b.atR a (.endRangeFunc l::k)) cs) w = .go (G (b.atR a ((jump.map Item.code).toList++k)) cs) w' es:=by
 simp only[G,stepG,stepG.exec,Frame.atR,Sem.runT_eq,h,GStep.after]
 exact⟨_,rfl⟩
theorem pz (hR:Rel x) {id:Nat} {r:IK} (h:x.S[id]? = some (.loop r)):∃ lo,x.w.heap[x.μ id]? = some (.loop lo)∧lo.state=r.st∧lo.pending=r.iz∧lo.fn=r.fn∧en x r.env lo.tmps∧lo.params=r.params.toArray∧lo.assign=r.assign∧lo.body=r.body∧lo.defers=x.μ r.dfr∧x.S[r.dfr]? = some .defer:=by
 obtain⟨o,h1,h2⟩:=hR.dg id _ h rfl
 cases o<;>simp only[oR] at h2
 exact⟨_,h1,h2⟩
theorem yO (hR:Rel x) {id:Nat} {r:IK} (h:x.S[id]? = some (.loop r)) {lo:Loop} (LN:x.w.heap[x.μ id]? = some (.loop lo)) (st:LoopState) (pd:Option Code) :
  Rel (x.rJ id (.loop { lo with state:=st,pending:=pd }) (.loop { r with st:=st,iz:=pd }))∧bh x (x.rJ id (.loop { lo with state:=st,pending:=pd }) (.loop { r with st:=st,iz:=pd })):=by
 obtain⟨lo',h1,h2,h3,h4,h5,h6,h7,h8,h9,uU⟩:=pz hR h
 rw[LN] at h1
 cases h1
 have M:=vI (x:=x) (o := .loop { lo with state:=st,pending:=pd }) (b := .loop { r with st:=st,iz:=pd }) hR h rfl (by simp)
 refine⟨EN hR h rfl (by simp) ⟨rfl,rfl,h4,h5.mono M,h6,h7,h8,h9,?_⟩,M⟩
 show (x.S.set _ _)[_]? = _
 rw[cI h,if_neg (by rintro e; rw[e,h] at uU; cases uU)]
 exact uU
theorem xR (S:ak):AW S S.length := .inl rfl
theorem wL (S:ak) (b:DB):di S S.length b=S++[b]:=by unfold di; rw[if_neg (by omega)]
set_option maxHeartbeats 1000000 in
theorem lI (hP:Plain P) (hc:gz P af call) {L:Nat} {fn:FuncId} {fF:Bool} {n0:Nat} {b:Frame} {cs:List Frame} (hk:b.kind ≠ .early) (Ia:b.fn=fn) (Mc:fF=false→b.roundOf=none) :
  ∀ (c:Code),yL P af ty aC call yf c→∀ {k:List Item} {env ax:List DV} {S':ak} {e:DX} {a:Act} {x:Cx} {ds:List Nat},bC P ty aC call yf L fn fF c env x.S=some (e,ax,S')→Rel x→en x env a.tmps→lU n0 x ds a.defers→n0≤x.S.length →
   (∀ y a' eM,y.S=S'→Rel y→bh x y→en y ax a'.tmps→lU n0 y eM a'.defers→D2 P af b k cs e a' y.w)→ff P af () (G (b.atR a (.code c::k)) cs) x.w:=by
 intro c
 induction c with
 | skip =>
  intro _ k env ax S' e a x ds h hR he hd pX hn
  simp only[bC,Option.some.injEq,Prod.mk.injEq] at h
  obtain⟨rfl,rfl,rfl⟩:=h
  exact cF hP (fun w=>⟨_,R7⟩) (hn x a ds rfl hR (bh.refl x) he hd)
 | label l =>
  intro _ k env ax S' e a x ds h hR he hd pX hn
  simp only[bC,Option.some.injEq,Prod.mk.injEq] at h
  obtain⟨rfl,rfl,rfl⟩:=h
  exact cF hP (fun w=>⟨_,OR⟩) (hn x a ds rfl hR (bh.refl x) he hd)
 | region id ops draw =>
  intro gd k env ax S' e a x ds h hR he hd pX hn
  simp only[bC,Option.map_eq_some_iff,Prod.mk.injEq] at h
  obtain⟨⟨jM,S1⟩,h1,rfl,rfl,rfl⟩:=h
  exact gd h1 hk hR he fun y a' q1 q2 q3 q4 q5=>hn y a' ds q1 q2 q3 q4 (by rw[q5]; exact hd.mono q3)
 | seq c1 c2 JL LG =>
  intro gd k env ax S' e a x ds h hR he hd pX hn
  simp only[bC] at h
  refine cF hP (fun w=>⟨_,Cp⟩) ?_
  split at h
  ·rename_i jM S1 h1
   refine JL gd.1 h1 hR he hd pX fun y a' eM q1 q2 q3 q4 q5 => ?_
   subst q1
   exact LG gd.2 h q2 q4 q5 (Nat.le_trans pX q3.len) fun z Zm MF r1 r2 r3 r4 r5=>hn z Zm MF r1 r2 (q3.trans r3) r4 r5
  ·rename_i r hne
   refine JL gd.1 h hR he hd pX fun y a' eM q1 q2 q3 q4 q5=>D2.push (fun _=>rfl) ?_ (hn y a' eM q1 q2 q3 q4 q5)
   rintro rfl
   exact hne _ _ h
 | cond o c1 c2 JL LG =>
  intro gd k env ax S' e a x ds h hR he hd pX hn
  simp only[bC] at h
  split at h
  ·rename_i ho
   have hv:=jZ (si he _ _ ho)
   refine cF hP (fun w=>⟨_,I9 hv⟩) ?_
   rw[if_pos rfl]
   exact JL gd.1 h hR he hd pX hn
  ·rename_i ho
   have hv:=jZ (si he _ _ ho)
   refine cF hP (fun w=>⟨_,I9 hv⟩) ?_
   rw[if_neg (by simp)]
   exact LG gd.2 h hR he hd pX hn
  ·cases h
 | block id c ih =>
  intro gd k env ax S' e a x ds h hR he hd pX hn
  simp only[bC] at h
  refine cF hP (fun w=>⟨_,OS⟩) ?_
  split at h
  ·rename_i gJ jM S1 h1
   cases h
   refine ih gd h1 hR he hd pX fun y a' eM q1 q2 q3 q4 q5 => ?_
   have hf:=hn y a' eM q1 q2 q3 q4 q5
   intro k' pZ
   simp only[exitTo] at pZ
   by_cases hid:gJ=id
   ·subst hid
    simp only[beq_self_eq_true,if_true] at pZ hf
    exact cF hP (fun w=>⟨_,R9 pZ⟩) hf
   ·rw[if_neg hid] at hf
    have:(id==gJ)=false:=by simpa using fun e=>hid e.symm
    rw[this] at pZ
    exact hf k' pZ
  ·rename_i r hne
   refine ih gd h hR he hd pX fun y a' eM q1 q2 q3 q4 q5 => ?_
   have hf:=hn y a' eM q1 q2 q3 q4 q5
   cases e with
   | normal=>exact cF hP (fun w=>⟨_,Hs⟩) hf
   | exit gJ=>exact absurd h (hne _ _ _)
   | ret=>exact hf
 | loop c ih =>
  intro gd k env ax S' e a x ds h hR he hd pX hn
  simp only[bC] at h
  refine cF hP (fun w=>⟨_,R8⟩) ?_
  have key:∀ n {env:List DV} {a:Act} {x:Cx} {ds:List Nat},ki (bC P ty aC call yf L fn fF c) n env x.S=some (e,ax,S')→Rel x→en x env a.tmps→lU n0 x ds a.defers→n0≤x.S.length →
    (∀ y a' eM,y.S=S'→Rel y→bh x y→en y ax a'.tmps→lU n0 y eM a'.defers→D2 P af b k cs e a' y.w)→ff P af () (G (b.atR a (.code c :: .inLoop c::k)) cs) x.w:=by
   intro n
   induction n with
   | zero=>intro env a x ds h; simp[ki] at h
   | succ n ihn =>
    intro env a x ds h hR he hd pX hn
    unfold ki at h
    split at h
    ·rename_i jM S1 h1
     refine ih gd h1 hR he hd pX fun y a' eM q1 q2 q3 q4 q5 => ?_
     subst q1
     exact cF hP (fun w=>⟨_,KR⟩) (ihn h q2 q4 q5 (Nat.le_trans pX q3.len) fun z Zm MF r1 r2 r3 r4 r5=>hn z Zm MF r1 r2 (q3.trans r3) r4 r5)
    ·rename_i r hne
     refine ih gd h hR he hd pX fun y a' eM q1 q2 q3 q4 q5=>D2.push (fun _=>rfl) ?_ (hn y a' eM q1 q2 q3 q4 q5)
     rintro rfl
     exact hne _ _ h
  exact key L h hR he hd pX hn
 | scope c ih =>
  intro gd k env ax S' e a x ds h hR he hd pX hn
  simp only[bC] at h
  refine cF hP (fun w=>⟨_,OP⟩) ?_
  refine ih gd h hR he hd pX fun y a' eM q1 q2 q3 q4 q5 => ?_
  have hf:=hn y a' eM q1 q2 q3 q4 q5
  cases e with
  | normal=>exact cF hP (fun w=>⟨_,Hr⟩) hf
  | exit gJ=>exact D2.push (fun _=>rfl) (by simp) hf
  | ret=>exact hf
 | exit id =>
  intro _ k env ax S' e a x ds h hR he hd pX hn
  simp only[bC,Option.some.injEq,Prod.mk.injEq] at h
  obtain⟨rfl,rfl,rfl⟩:=h
  exact hn x a ds rfl hR (bh.refl x) he hd k rfl
 | ret =>
  intro _ k env ax S' e a x ds h hR he hd pX hn
  simp only[bC,Option.some.injEq,Prod.mk.injEq] at h
  obtain⟨rfl,rfl,rfl⟩:=h
  exact hn x a ds rfl hR (bh.refl x) he hd k
 | goto l=>intro _ k env ax S' e a x ds h; simp[bC] at h
 | refuse why=>intro _ k env ax S' e a x ds h; simp[bC] at h
 | rangeFunc f ps JV body _ _ =>
  intro _ k env ax S' e a x ds h hR he hd pX hn
  simp only[bC] at h
  split at h
  ·cases h
  ·rename_i abW
   have hro:=Mc (by simpa using abW)
   split at h
   ·rename_i g fs vs hf
    have TD:=si he _ _ hf
    generalize hv:a.eval f=vf at TD
    cases TD with
    | @fn _ _ _ vfs vcs k1 k2 k3 k4 =>
     split at h
     ·rename_i u S1 h1
      refine fZ hP fun n => ?_
      have hRn:=hR.dr n
      have Mn:=dD x n
      have hp1:kU (x.w.at n) ((x.w.at n).alloc (.deferred (some []))) (.deferred (some [])):=eF _ _
      have LR:=js (x:=x.dr n) (k:=0) (F:=fun _=>False) (b := .defer) hRn (xR x.S) hp1 (by simp) (.inr (.inr (.inl ⟨rfl,by simp,trivial⟩)))
      have M1:=gG (x:=x.dr n) (k:=0) (F:=fun _=>False) (b := .defer) hRn (xR x.S) hp1
      generalize DF:(x.dr n).fresh ((x.w.at n).alloc (.deferred (some []))) x.S.length 0 (fun _=>False) .defer=x1 at LR M1
      have TH:x1.S=x.S++[.defer]:=by rw[← DF]; exact wL x.S _
      have HY:x1.w=(x.w.at n).alloc (.deferred (some [])):=by rw[← DF]; rfl
      have hμ1:x1.μ x.S.length=x.w.heap.size:=by rw[← DF]; exact if_pos rfl
      have Iu:x1.S.length=x.S.length+1:=by rw[TH]; simp
      have Yd:kU x1.w (((x.w.at n).alloc (.deferred (some []))).alloc (.loop { state := .ready,pending:=none,fn:=b.fn,tmps:=a.tmps,params:=ps,assign:=JV,body,defers:=x.w.heap.size })) (.loop { state := .ready,pending:=none,fn:=b.fn,tmps:=a.tmps,params:=ps,assign:=JV,body,defers:=x.w.heap.size }):=by
       rw[HY]; exact eF _ _
      have Ux:AW x1.S (x.S.length+1) := .inl Iu.symm
      have M2:=gG (x:=x1) (k:=0) (F:=fun _=>False) (b := .loop ⟨.ready,none,fn,env,ps.toList,JV,body,x.S.length⟩) LR Ux Yd
      generalize Ah:x1.fresh (((x.w.at n).alloc (.deferred (some []))).alloc (.loop { state := .ready,pending:=none,fn:=b.fn,tmps:=a.tmps,params:=ps,assign:=JV,body,defers:=x.w.heap.size })) (x.S.length+1) 0 (fun _=>False) (.loop ⟨.ready,none,fn,env,ps.toList,JV,body,x.S.length⟩)=x2 at M2
      have Dv:x2.S=x.S++[.defer,.loop ⟨.ready,none,fn,env,ps.toList,JV,body,x.S.length⟩]:=by
       rw[← Ah]
       show di x1.S (x.S.length+1) _=_
       rw[← Iu,wL,TH]
       simp
      have hw2:x2.w=((x.w.at n).alloc (.deferred (some []))).alloc (.loop { state := .ready,pending:=none,fn:=b.fn,tmps:=a.tmps,params:=ps,assign:=JV,body,defers:=x.w.heap.size }):=by rw[← Ah]; rfl
      have hμ2:x2.μ (x.S.length+1)=x.w.heap.size+1:=by
       rw[← Ah]
       show (if _ then x1.w.heap.size else _)=_
       rw[if_pos rfl,HY]
       simp[World.at]
      have hμ2':x2.μ x.S.length=x.w.heap.size:=by
       rw[← Ah]
       show (if _ then _ else x1.μ x.S.length)=_
       rw[if_neg (by omega),hμ1]
      have MM:=(Mn.trans M1).trans M2
      have hR2:Rel x2:=by
       have:=js (x:=x1) (k:=0) (F:=fun _=>False) (b := .loop ⟨.ready,none,fn,env,ps.toList,JV,body,x.S.length⟩) LR Ux Yd (by simp) (.inr (.inr (.inl ⟨rfl,by simp,?_⟩)))
       ·rw[Ah] at this; exact this
       ·rw[Ah]
        refine⟨rfl,rfl,Ia,he.mono MM,by simp,rfl,rfl,hμ2'.symm,?_⟩
        rw[Dv]
        simp
      have Nc:lU n0 x2 (x.S.length::ds) ({ target := .collected x.w.heap.size,args:=#[] }::a.defers):=by
       obtain⟨q1,q2,q3⟩:=hd.mono MM
       refine⟨by rw[List.map_cons,hμ2',q1],List.nodup_cons.2 ⟨fun hm => ?_,q2⟩,fun id hid => ?_⟩
       ·have:=(List.getElem?_eq_some_iff.1 (hd.2.2 _ hm).2.1).1
        omega
       ·rcases List.mem_cons.1 hid with rfl | hid
        ·refine⟨pX,by rw[Dv]; simp,?_⟩
         rw[hμ2',hw2]
         have:((x.w.at n).alloc (.deferred (some []))).heap.size=x.w.heap.size+1:=by simp[World.at]
         rw[(eF _ _).lt (by omega)]
         exact(eF (x.w.at n) _).new
        ·exact q3 id hid
      have iU:en x2 (fs++[.uN (x.S.length+1)]++vs) (vfs++#[.func (.yield (x.w.heap.size+1)) #[] #[]]++vcs):=by
       have e1:en x2 fs vfs:=en.mono MM ⟨k1,k3⟩
       have e2:en x2 vs vcs:=en.mono MM ⟨k2,k4⟩
       refine iE (iE e1 ⟨rfl,fun j c hj => ?_⟩) e2
       cases j with
       | zero =>
        simp only[List.getElem?_cons_zero,Option.some.injEq] at hj
        subst hj
        show RV x2 _ (.func (.yield (x.w.heap.size+1)) #[] #[])
        rw[← hμ2]
        exact .uN (r:=⟨.ready,none,fn,env,ps.toList,JV,body,x.S.length⟩) (by rw[Dv]; simp)
       | succ j=>simp at hj
      obtain⟨⟨sW,cd,Mg,TE⟩,acg⟩:=hc _ _ _ _ _ h1 x2 _ hR2 Dv iU
      obtain⟨es,hstep⟩:=Dg (P:=P) (b:=b) (a:=a) (k:=k) (cs:=cs) (w:=x.w.at n) (g:=f) (ps:=ps) (assign:=JV) (body:=body) hk hro hv Mg TE (hP.count g sW Mg)
      refine⟨_,_,_,es,hstep,?_⟩
      have UC:=acg (b.atR { a with defers:={ target := .collected x.w.heap.size,args:=#[] }::a.defers } (.inRangeFunc (x.w.heap.size+1)::k)) cs fun y u hp => ?_
      ·rw[hw2] at UC
       exact UC
      obtain⟨hyS,hyR,Tn,-⟩:=hp
      subst hyS
      rw[finish_atR_inRangeFunc]
      have MY:=MM.trans Tn
      split at h
      ·rename_i r hr
       split at h
       ·cases h
       ·rename_i aaZ
        have hμy:y.μ (x.S.length+1)=x.w.heap.size+1:=by
         rw[(Tn.dg _ _ (show x2.S[x.S.length+1]? = some (.loop ⟨.ready,none,fn,env,ps.toList,JV,body,x.S.length⟩) by rw[Dv]; simp) rfl).1,hμ2]
        obtain⟨lo,l1,l2,l3,-⟩:=pz hyR hr
        rw[hμy] at l1
        obtain⟨z1,z2⟩:=yO hyR hr (by rw[hμy]; exact l1) .exhausted r.iz
        have hwz:(y.rJ (x.S.length+1) (.loop { lo with state := .exhausted,pending:=r.iz }) (.loop { r with st := .exhausted,iz:=r.iz })).w=bE y.w (x.w.heap.size+1) (.loop { lo with state := .exhausted,pending:=r.iz }):=by
         show bE y.w (y.μ _) _=_
         rw[hμy]
        have hSz:(y.rJ (x.S.length+1) (.loop { lo with state := .exhausted,pending:=r.iz }) (.loop { r with st := .exhausted,iz:=r.iz })).S=y.S.set (x.S.length+1) (.loop { r with st := .exhausted }):=rfl
        generalize y.rJ (x.S.length+1) (.loop { lo with state := .exhausted,pending:=r.iz }) (.loop { r with st := .exhausted,iz:=r.iz })=z at z1 z2 hwz hSz
        have MZ:=MY.trans z2
        refine fZ hP fun n2 => ?_
        have aaW:(Instr.endLoop (x.w.heap.size+1)).run P (y.w.at n2) = .ok r.iz (z.w.at n2):=by
         have hg:=gC (P:=P) (w:=y.w.at n2) (show (y.w.at n2).heap[x.w.heap.size+1]? = _ from l1) (by simp)
         have hs:=iF (P:=P) (w:=y.w.at n2) (o := .loop { lo with state := .exhausted,pending:=r.iz }) (show (y.w.at n2).heap[x.w.heap.size+1]? = _ from l1) (by simp)
         have hb:(lo.state==LoopState.busy)=false:=by rw[l2]; simpa using aaZ
         simp only[Instr.endLoop,Instr.getLoop,Sem.run_bind,hg,Result.andThen_ok,Sem.run_pure,hb,Bool.false_eq_true,if_false,hs,l3]
         rw[hwz]
         rfl
        obtain⟨TQ,xm⟩:=FI (P:=P) (b:=b) (a:={ a with defers:={ target := .collected x.w.heap.size,args:=#[] }::a.defers }) (k:=k) (cs:=cs) aaW
        refine⟨_,_,_,TQ,xm,D9 ?_ n2⟩
        have rR:=hn z { a with defers:={ target := .collected x.w.heap.size,args:=#[] }::a.defers } (x.S.length::ds)
        split at h
        ·rename_i YT
         simp only[Option.some.injEq,Prod.mk.injEq] at h
         obtain⟨rfl,rfl,rfl⟩:=h
         rw[YT]
         exact rR hSz z1 MZ (he.mono MZ) ((Nc.mono Tn).mono z2)
        ·rename_i YT
         simp only[Option.some.injEq,Prod.mk.injEq] at h
         obtain⟨rfl,rfl,rfl⟩:=h
         rw[YT]
         exact rR hSz z1 MZ (he.mono MZ) ((Nc.mono Tn).mono z2) k
        ·rename_i e' YT
         simp only[Option.some.injEq,Prod.mk.injEq] at h
         obtain⟨rfl,rfl,rfl⟩:=h
         rw[YT]
         exact rR hSz z1 MZ (he.mono MZ) ((Nc.mono Tn).mono z2) k rfl
        ·cases h
      ·cases h
     ·cases h
   ·cases h
end Go.Di
end
section
namespace Go.Di
open Go Go.Conc Go.Co
variable {P:Program} {af:Machine→Trace→Prop} {ty:eY} {x:Cx} {aC:bk} {call:aW} {yf:dR}
theorem lD (h:∀ id ops draw,oQ P af ty aC call yf id ops draw):∀ c,yL P af ty aC call yf c:=by
 intro c
 induction c with
 | region id ops draw=>exact h id ops draw
 | seq a b iha ihb=>exact⟨iha,ihb⟩
 | cond o a b iha ihb=>exact⟨iha,ihb⟩
 | block id c ih=>exact ih
 | loop c ih=>exact ih
 | scope c ih=>exact ih
 | _=>trivial
def JY (tmps:Array Value):ResultVar→Sem Value
 | .tmp t=>pure (tmps.getD t undef)
 | .cell a t=>do loadVar t (← asAddr (tmps.getD a undef))
theorem Hl (fn:Func) (tmps:Array Value):results fn tmps=(do let vs ← fn.results.mapM (JY tmps); pure (if h:vs.size=1 then vs[0] else .tuple vs)):=by
 have:(fun | .tmp t=>pure (tmps.getD t undef) | .cell a t=>do loadVar t (← asAddr (tmps.getD a undef)):ResultVar→Sem Value)=JY tmps:=by
  funext r; cases r<;>rfl
 rw[← this]
 rfl
theorem CQ (dx:gY P ty) {env:List DV} {tmps:Array Value} (hR:Rel x) (he:en x env tmps):∀ {rs:List ResultVar} {l:List DV},oI ty env x.S rs=some l →
  ∃ vs:List Value,(rs.mapM (JY tmps)).run P x.w = .ok vs x.w∧en x l vs.toArray
 | [],l,h=>by
  simp only[oI,Option.some.injEq] at h
  subst h
  exact⟨[],rfl,rfl,by simp⟩
 | .tmp t::rs,l,h=>by
  simp only[oI,Option.map_eq_some_iff] at h
  obtain⟨l',h1,rfl⟩:=h
  obtain⟨vs,h2,h3,h4⟩:=CQ dx hR he h1
  have hv:RV x (env.getD t aO) (tmps.getD t undef):=si (a:=⟨tmps,[]⟩) he (.tmp t) _ rfl
  refine⟨tmps.getD t undef::vs,by simp only[List.mapM_cons,JY,Sem.run_bind,Sem.run_pure,Result.andThen_ok,h2],by simpa using h3,fun j c hc => ?_⟩
  cases j with
  | zero=>simp only[List.getElem?_cons_zero,Option.some.injEq] at hc; subst hc; exact hv
  | succ j=>simpa [Array.getD_eq_getD_getElem?] using h4 j c (by simpa using hc)
 | .cell a t::rs,l,h=>by
  unfold oI at h
  split at h
  ·rename_i d l' h0 h1
   cases h
   obtain⟨vs,h2,h3,h4⟩:=CQ dx hR he h1
   have hv:RV x (env.getD a aO) (tmps.getD a undef):=si (a:=⟨tmps,[]⟩) he (.tmp a) _ rfl
   obtain⟨v,h5,h6⟩:=E2 dx hR hv h0
   have hrun:(JY tmps (.cell a t)).run P x.w = .ok v x.w:=by
    show (do loadVar t (← asAddr (tmps.getD a undef)):Sem Value).run P x.w=_
    generalize tmps.getD a undef=u at hv h5
    unfold iq at h0
    generalize env.getD a aO=da at hv h0
    split at h0
    ·cases hv; simpa [Instr.loadAt,Instr.sureAddr,asAddr] using h5
    ·cases hv; simpa [Instr.loadAt,Instr.sureAddr,asAddr] using h5
    ·split at h0
     ·rename_i hop
      obtain⟨hS,B3⟩:=jb hop
      cases hv with
      | dM xE _ hA =>
       rw[hS] at xE
       cases xE
       rw[hA B3] at h5 ⊢
       simpa [Instr.loadAt,Instr.sureAddr,asAddr] using h5
     ·cases h0
    ·cases h0
   refine⟨v::vs,by simp only[List.mapM_cons,Sem.run_bind,hrun,Result.andThen_ok,h2,Sem.run_pure],by simpa using h3,fun j c hc => ?_⟩
   cases j with
   | zero=>simp only[List.getElem?_cons_zero,Option.some.injEq] at hc; subst hc; exact h6
   | succ j=>simpa [Array.getD_eq_getD_getElem?] using h4 j c (by simpa using hc)
  ·cases h
theorem zI (dx:gY P ty) {fn:Func} {env:List DV} {tmps:Array Value} (hR:Rel x) (he:en x env tmps) {l:List DV} (h:oI ty env x.S fn.results.toList=some l) :
  ∃ v,(results fn tmps).run P x.w = .ok v x.w∧RV x (oneOf l) v:=by
 obtain⟨vs,h1,h2,h3⟩:=CQ dx hR he h
 have hm:(fn.results.mapM (JY tmps)).run P x.w = .ok vs.toArray x.w:=by
  rw[Array.mapM_eq_mapM_toList]
  simp only[Sem.run_map,h1,Result.andThen_ok]
 refine⟨if h:vs.toArray.size=1 then vs.toArray[0] else .tuple vs.toArray,?_,?_⟩
 ·rw[Hl]
  simp only[Sem.run_bind,hm,Result.andThen_ok,Sem.run_pure]
 ·match l,vs,h2,h3 with
  | [],[],_,_=>exact .ep rfl (by simp)
  | [d],[v],_,h3=>exact h3 0 d rfl
  | d::e::l,v::u::vs,h2,h3=>exact .ep (by simpa using h2) h3
  | [],_::_,h2,_=>simp at h2
  | [_],[],h2,_=>simp at h2
  | [_],_::_::_,h2,_=>simp at h2
  | _::_::_,[],h2,_=>simp at h2
  | _::_::_,[_],h2,_=>simp at h2
theorem OQ {b:Frame} {a:Act} {todo:List Item} {c:Frame} {cs:List Frame} {w:World} {fn:Func} {v:Value} (hn:b.kind = .normal) (hd:a.defers=[]) (hf:P.funcs[b.fn]? = some fn) (hr:(results fn a.tmps).run P w = .ok v w) :
  ∃ es,stepG P true (G { b.at a todo with mode := .returning } (c::cs)) w = .go (G (c.finish v) cs) w es:=by
 simp only[G,stepG,unwind,doReturn,Frame.at,hn,hd,hf,Sem.runT_eq,hr,GStep.after]
 exact⟨_,rfl⟩
theorem I8 {b:Frame} {a:Act} {todo:List Item} {cs:List Frame} {w w':World} {r:Nat} {ds:List Deferred} (hd:a.defers={ target := .collected r,args:=#[] }::ds) (hr:(Instr.takeDeferred r).run P w = .ok [] w') :
  ∃ es,stepG P true (G { b.at a todo with mode := .returning } cs) w = .go (G { b.at { a with defers:=ds } todo with mode := .returning } cs) w' es:=by
 simp only[G,stepG,unwind,Frame.at,hd,Sem.runT_eq,hr,GStep.after,List.nil_append]
 exact⟨_,rfl⟩
theorem IV {x0:Cx} (M:bh x0 x) (hR:Rel x) {id:Nat} (hid:x0.S.length≤id) (hS:x.S[id]? = some .defer) :
  Rel { x with w:=bE x.w (x.μ id) (.deferred none) }∧bh x0 { x with w:=bE x.w (x.μ id) (.deferred none) }∧∀ d v,RV x d v→RV { x with w:=bE x.w (x.μ id) (.deferred none) } d v:=by
 have fV:=aN hS (show DB.defer ≠ .none by simp)
 have ZL:∀ i,Live x0.S i→i≠id:=by
  rintro i ⟨c,hc,-⟩ rfl
  have:=(List.getElem?_eq_some_iff.1 hc).1
  omega
 have NR:x0.w.heap.size≤x.μ id:=by
  rcases M.live id fV with ⟨h,-⟩ | h
  ·exact absurd rfl (ZL id h)
  ·exact h
 have mC:∀ b,b≠x.μ id→(bE x.w (x.μ id) (.deferred none)).heap[b]? = x.w.heap[b]? := fun b hb=>eG _ _ _ hb
 have Ga:∀ b o,x.Fz b o→(bE x.w (x.μ id) (.deferred none)).cell? ⟨b,o,none⟩=x.w.cell? ⟨b,o,none⟩:=fun b o h=>cell_of_block (mC b (by rintro rfl; exact hR.NU hS rfl o h)) o
 have LJ:∀ d v,RV x d v→RV { x with w:=bE x.w (x.μ id) (.deferred none) } d v:=by
  intro d v h
  induction h with
  | val h=>exact .val h
  | agg h _ ih=>exact .agg h ih
  | ep h _ ih=>exact .ep h ih
  | sl hv _ h1 h2 h3 hsp h4 ih=>exact .sl (View.mono (x:=x) (y:={ x with w:=bE x.w (x.μ id) (.deferred none) }) (fun b o h=>⟨h,Ga b o h⟩) hv) ih h1 h2 h3 hsp h4
  | ptr h=>exact .ptr h
  | cV hv _ ih=>exact .cV (View.mono (x:=x) (y:={ x with w:=bE x.w (x.μ id) (.deferred none) }) (fun b o h=>⟨h,Ga b o h⟩) hv) ih
  | fn h1 h2 _ _ JL LG=>exact .fn h1 h2 JL LG
  | map h=>exact .map h
  | uN h=>exact .uN h
  | gI h h1 h2=>exact .gI h h1 h2
  | dM h h1 h2=>exact .dM h h1 h2
 have hne:∀ i b,x.S[i]? = some b→b ≠ .none→i≠id→x.μ i≠x.μ id:=fun i b hi hb h e=>h (hR.inj i id (aN hi hb) fV e)
 obtain⟨ob,hob,-⟩:=hR.dg id _ hS rfl
 refine⟨⟨fun i l hl => ?_,fun i e s n hl => ?_,fun i b hb Mx => ?_,hR.inj,fun b o h => ?_,hR.sep,hR.lM,fun i e s l z hl => ?_⟩,⟨?_,M.env,fun b o h=>⟨(M.fz b o h).1,?_⟩,M.HX,fun b hb hn => ?_,M.len,M.cells,fun i b hb Mx => ?_,M.cN,M.live,M.ops⟩,LJ⟩
 ·obtain⟨arr,e,h1,h2,h3⟩:=hR.cells i l hl
  exact⟨arr,e,(mC _ (hne i _ hl (by simp) (by rintro rfl; rw[hS] at hl; cases hl))).trans h1,h2,fun j c hc=>LJ _ _ (h3 j c hc)⟩
 ·obtain⟨arr,h1,h2⟩:=hR.cN i e s n hl
  exact⟨arr,(mC _ (hne i _ hl (by simp) (by rintro rfl; rw[hS] at hl; cases hl))).trans h1,h2⟩
 ·by_cases h:i=id
  ·subst h
   rw[hS] at hb
   cases hb
   exact⟨_,uE _ _ _ _ hob,trivial⟩
  ·obtain⟨o,h1,h2⟩:=hR.dg i b hb Mx
   refine⟨o,(mC _ (hne i _ hb (ez Mx) h)).trans h1,?_⟩
   cases b<;>cases o<;>simp only[oR] at h2 ⊢<;>first | exact h2 | trivial | (obtain⟨q1,q2,q3,q4,q5⟩:=h2; exact⟨q1,q2,q3,⟨q4.1,fun j c hc=>LJ _ _ (q4.2 j c hc)⟩,q5⟩)
 ·obtain⟨v,hv⟩:=hR.uV b o h
  exact⟨v,(Ga b o h).trans hv⟩
 ·obtain⟨arr,h1,h2,h3,h4,h5,h6⟩:=hR.ops i e s l z hl
  exact⟨arr,(mC _ (hne i _ hl (by simp) (by rintro rfl; rw[hS] at hl; cases hl))).trans h1,h2,h3,h4,fun j c hc=>⟨(h5 j c hc).1,LJ _ _ (h5 j c hc).2⟩,h6⟩
 ·show _≤(bE x.w _ _).heap.size
  simp only[bE,Array.size_setIfInBounds]
  exact M.size
 ·exact(Ga b o (M.fz b o h).1).trans (M.fz b o h).2
 ·exact(mC b (by omega)).trans (M.old b hb hn)
 ·obtain⟨q1,q2,q3⟩:=M.dg i b hb Mx
  refine⟨q1,q2,fun hd=>(mC _ ?_).trans (q3 hd)⟩
  rw[← q1]
  obtain⟨b',q4,q5⟩:=q2
  exact hne i b' q4 (ez (pE q5).2) (ZL i (aN hb (ez Mx)))
theorem yZ (hP:Plain P) (dx:gY P ty) {x0:Cx} {b:Frame} {todo:List Item} {c:Frame} {cs:List Frame} {fn:Func} {env:List DV} {l:List DV} (hb:b.kind = .normal) (hf:P.funcs[b.fn]? = some fn) {Sr:ak} :
  ∀ (ds:List Nat) {a:Act} {x:Cx},x.S=Sr→Rel x→bh x0 x→en x env a.tmps→lU x0.S.length x ds a.defers→oI ty env Sr fn.results.toList=some l →
   (∀ y v,y.S=Sr→Rel y→bh x0 y→RV y (oneOf l) v→ff P af () (G (c.finish v) cs) y.w)→ff P af () (G { b.at a todo with mode := .returning } (c::cs)) x.w
 | [],a,x,hS,hR,hM,he,hd,hr,hn=>by
  refine fZ hP fun n => ?_
  have Gc:a.defers=[]:=hd.1
  obtain⟨v,h1,h2⟩:=zI (x:=x.dr n) dx (hR.dr n) (he.mono (dD x n)) (l:=l) (by show oI ty env x.S _=_; rw[hS]; exact hr)
  obtain⟨es,hst⟩:=OQ (P:=P) (b:=b) (a:=a) (todo:=todo) (c:=c) (cs:=cs) hb Gc hf h1
  exact⟨_,_,_,es,hst,hn (x.dr n) v hS (hR.dr n) (hM.trans (dD x n)) h2⟩
 | id::ds,a,x,hS,hR,hM,he,hd,hr,hn=>by
  obtain⟨q1,q2,q3⟩:=hd
  obtain⟨r1,r2,r3⟩:=q3 id (by simp)
  refine fZ hP fun n => ?_
  have jX:=hR.dr n
  have TL:=hM.trans (dD x n)
  obtain⟨t1,t2,t3⟩:=IV (x:=x.dr n) TL jX r1 r2
  have hg:=gC (P:=P) (w:=x.w.at n) (show (x.w.at n).heap[x.μ id]? = _ from r3) (by simp)
  have hs:=iF (P:=P) (w:=x.w.at n) (o := .deferred none) (show (x.w.at n).heap[x.μ id]? = _ from r3) (by simp)
  have It:(Instr.takeDeferred (x.μ id)).run P (x.w.at n) = .ok [] (bE (x.w.at n) (x.μ id) (.deferred none)):=by
   simp only[Instr.takeDeferred,Sem.run_bind,hg,Result.andThen_ok,hs,Sem.run_pure]
  obtain⟨es,hst⟩:=I8 (P:=P) (b:=b) (a:=a) (todo:=todo) (cs:=c::cs) (ds:=ds.map fun id=>{ target := .collected (x.μ id),args:=#[] }) (by rw[q1]; rfl) It
  refine⟨_,_,_,es,hst,?_⟩
  have PZ:=List.nodup_cons.1 q2
  exact yZ hP dx hb hf ds (x:={ x.dr n with w:=bE (x.w.at n) (x.μ id) (.deferred none) }) (a:={ a with defers:=ds.map fun id=>{ target := .collected (x.μ id),args:=#[] } }) hS t1 t2 ⟨he.1,fun j c hc=>t3 _ _ (RV.mono (dD x n) (he.2 j c hc))⟩
   ⟨rfl,PZ.2,fun i hi=>by
    obtain⟨u1,u2,u3⟩:=q3 i (by simp[hi])
    have hne:x.μ i≠x.μ id:=fun e=>PZ.1 (hR.inj i id (aN u2 (by simp)) (aN r2 (by simp)) e▸hi)
    exact⟨u1,u2,(eG _ _ _ hne).trans u3⟩⟩ hr hn
theorem PL (hP:Plain P) (dx:gY P ty) (hc:gz P af call) (gd:∀ id ops draw,oQ P af ty aC call yf id ops draw) {L:Nat} {f:FuncId} {fn:Func} (hf:P.funcs[f]? = some fn) {args:List DV} {S S':ak} {v:DV} (h:ry P ty aC call yf L f fn args S=some (v,S'))
  {vals:Array Value} (hR:Rel x) (hS:x.S=S) (ha:en x args vals):cU P af x f vals fun y u=>y.S=S'∧Rel y∧bh x y∧RV y v u:=by
 subst hS
 unfold ry at h
 split at h
 ·rename_i c hb
  refine⟨⟨fn,c,hf,hb⟩,fun fr cs hn => ?_⟩
  rw[enter_at vals hf hb,← Frame.atR_of_none (b:=base f) rfl]
  have he:en x (args++List.replicate (fn.ntmps-args.length) aO) (vals++Array.replicate (fn.ntmps-vals.size) undef):=by
   refine iE ha ⟨by simp[ha.1],fun j c hc => ?_⟩
   rw[List.getElem?_replicate] at hc
   split at hc
   ·rename_i hj
    cases hc
    have:j<fn.ntmps-vals.size:=by rw[ha.1]; exact hj
    have e:(Array.replicate (fn.ntmps-vals.size) undef).getD j undef=undef:=by simp[Array.getD_eq_getD_getElem?,this]
    rw[e]
    exact .val rfl
   ·cases hc
  have key:∀ e ax S1,bC P ty aC call yf L f false c (args++List.replicate (fn.ntmps-args.length) aO) x.S=some (e,ax,S1)→(e = .normal∨e = .ret)→(oI ty ax S1 fn.results.toList).map (fun l=>(oneOf l,S1))=some (v,S') →
    ff P af () (G ((base f).atR { tmps:=vals++Array.replicate (fn.ntmps-vals.size) undef,defers:=[] } [.code c]) (fr::cs)) x.w:=by
   intro e ax S1 h1 Y2 h2
   simp only[Option.map_eq_some_iff,Prod.mk.injEq] at h2
   obtain⟨l,h3,rfl,rfl⟩:=h2
   refine lI (n0:=x.S.length) (ds:=[]) (b:=base f) (cs:=fr::cs) (fF:=false) hP hc (by simp[base]) rfl (fun _=>rfl) c (lD gd c) h1 hR he (qC _ _) (Nat.le_refl _) fun y a' eM q1 q2 q3 q4 q5 => ?_
   have fS:∀ todo,ff P af () (G { (base f).at a' todo with mode := .returning } (fr::cs)) y.w:=fun todo =>
    yZ hP dx (x0:=x) (b:=base f) (env:=ax) (l:=l) (Sr:=S1) rfl hf eM q1 q2 q3 q4 q5 h3 fun z u r1 r2 r3 r4=>hn z u ⟨r1,r2,r3,r4⟩
   rcases Y2 with rfl | rfl
   ·show ff P af () (G ((base f).atR a' []) (fr::cs)) y.w
    rw[Frame.atR_of_none (b:=base f) rfl]
    exact cF hP (fun w=>⟨_,stepG_end⟩) (fS _)
   ·intro k'
    rw[Frame.atR_of_none (b:=base f) rfl]
    exact cF hP (fun w=>⟨_,stepG_ret'⟩) (fS _)
  split at h
  ·rename_i ax S1 h1
   exact key _ _ _ h1 (.inl rfl) h
  ·rename_i ax S1 h1
   exact key _ _ _ h1 (.inr rfl) h
  ·cases h
 ·cases h
theorem IZ:∀ {ts:List Tmp} {ds:List DV} {vs:List Value} {env:List DV} {tmps:Array Value},en x env tmps→vs.length=ds.length→(∀ (j:Nat) (c:DV),ds[j]? = some c→RV x c (vs.getD j undef)) →
  en x (ym env (ts.zip ds)) ((ts.zip vs).foldl (fun tmps (p:Tmp×Value)=>tmps.setIfInBounds p.1 p.2) tmps)
 | [],ds,vs,env,tmps,h,_,_=>by simpa [ym] using h
 | t::ts,[],[],env,tmps,h,_,_=>by simpa [ym] using h
 | t::ts,[],_::_,env,tmps,h,hl,_=>by simp at hl
 | t::ts,_::_,[],env,tmps,h,hl,_=>by simp at hl
 | t::ts,d::ds,v::vs,env,tmps,h,hl,hv=>by
  simp only[List.zip_cons_cons,ym,List.foldl_cons]
  exact IZ (I1 h (by simpa using hv 0 d rfl)) (by simpa using hl) fun j c hc=>by simpa using hv (j+1) c (by simpa using hc)
theorem OT {b:Frame} {a:Act} {k:List Item} {cs:List Frame} {w w':World} {l:Nat} (hk:b.kind ≠ .early) (hr:b.roundOf=some l) (h:(Instr.beginRound l).run P w = .ok () w') :
  ∃ es,stepG P true (G (b.atR a (.beginRound::k)) cs) w = .go (G (b.atR a k) cs) w' es:=by
 have pZ:(b.kind==CallKind.early)=false:=by simpa using hk
 simp only[G,stepG,stepG.exec,Frame.atR,hr,stepG.apply,Option.elim_some,if_true,Sem.runT_eq,Sem.run_bind,h,Result.andThen_ok,Sem.run_pure,pZ,GStep.after,Frame.finish]
 exact⟨_,rfl⟩
theorem Df {b:Frame} {a:Act} {c:Frame} {cs:List Frame} {w w':World} {l:Nat} {v:Value} (hn:b.kind = .normal) (hr:b.roundOf=some l) (h:(Instr.endRound l none).run P w = .ok v w') :
  ∃ es,stepG P true (G (b.atR a []) (c::cs)) w = .go (G (c.finish v) cs) w' es:=by
 simp only[G,stepG,stepG.exec,Frame.atR,hr,Sem.runT_eq,h,GStep.after,doReturn,hn]
 exact⟨_,rfl⟩
theorem De {b:Frame} {a:Act} {k:List Item} {c:Frame} {cs:List Frame} {w w':World} {l:Nat} {v:Value} (hn:b.kind = .normal) (hr:b.roundOf=some l) (h:(Instr.endRound l (some .ret)).run P w = .ok v w') :
  ∃ es,stepG P true (G (b.atR a (.code .ret::k)) (c::cs)) w = .go (G (c.finish v) cs) w' es:=by
 simp only[G,stepG,stepG.exec,Frame.atR,hr,Sem.runT_eq,h,GStep.after,doReturn,hn]
 exact⟨_,rfl⟩
theorem AK {b:Frame} {a:Act} {k:List Item} {c:Frame} {cs:List Frame} {w w':World} {l id:Nat} {v:Value} (hn:b.kind = .normal) (hr:b.roundOf=some l) (he:exitTo id k=none) (h:(Instr.endRound l (some (.exit id))).run P w = .ok v w') :
  ∃ es,stepG P true (G (b.atR a (.code (.exit id)::k)) (c::cs)) w = .go (G (c.finish v) cs) w' es:=by
 simp only[G,stepG,stepG.exec,Frame.atR,hr,he,Option.elim_none,Sem.runT_eq,h,GStep.after,doReturn,hn]
 exact⟨_,rfl⟩
theorem KB (hP:Plain P) (hc:gz P af call) (gd:∀ id ops draw,oQ P af ty aC call yf id ops draw) {L:Nat}:tJ P af (GD P ty aC call yf L):=by
 intro id args S v S' h x vals hR hS ha
 subst hS
 unfold GD at h
 split at h
 ·rename_i r hr
  split at h
  ·rename_i hlen
   obtain⟨lo,l1,l2,l3,l4,l5,l6,l7,l8,-⟩:=pz hR hr
   refine⟨lo,l1,by rw[l6]; simpa [ha.1] using hlen,fun fr cs hn => ?_⟩
   have DL:∀ tmps,Frame.round (x.μ id) lo.fn tmps lo.assign lo.body .normal=({ (default:Frame) with fn:=r.fn,kind := .normal,roundOf:=some (x.μ id) }:Frame).atR { tmps:=tmps,defers:=[] } [.code r.assign,.beginRound,.code r.body]:=by
    intro tmps
    simp[Frame.round,Frame.atR,l4,l7,l8]
   rw[DL]
   generalize hB:({ (default:Frame) with fn:=r.fn,kind := .normal,roundOf:=some (x.μ id) }:Frame)=B
   have TM:B.kind = .normal:=by rw[← hB]
   have hBf:B.fn=r.fn:=by rw[← hB]
   have hBr:B.roundOf=some (x.μ id):=by rw[← hB]
   have Zd:B.kind ≠ .early:=by rw[TM]; simp
   have he:en x (ym r.env (r.params.zip args)) ((lo.params.zip vals).foldl (fun tmps (t,a)=>tmps.setIfInBounds t a) lo.tmps):=by
    have:=IZ (ts:=r.params) (ds:=args) (vs:=vals.toList) l5 (by simpa using ha.1) fun j c hc=>by simpa [Array.getD_eq_getD_getElem?,List.getD_eq_getElem?_getD] using ha.2 j c hc
    rw[l6,← Array.foldl_toList]
    simpa using this
   split at h
   ·rename_i ye S1 h1
    split at h
    ·rename_i r1 uO
     split at h
     ·rename_i hst
      split at h
      ·rename_i e adg S2 h2
       split at h
       ·rename_i r2 LK
        refine lI (n0:=0) (ds:=[]) (b:=B) (cs:=fr::cs) (fF:=true) hP hc Zd hBf (by simp) r.assign (lD gd _) h1 hR he (qC _ _) (Nat.zero_le _) fun y a1 ds1 q1 q2 q3 q4 q5 => ?_
        subst q1
        obtain⟨Ti,m1,m2,m3,-⟩:=pz q2 uO
        have hμy:y.μ id=x.μ id:=(q3.dg id _ hr rfl).1
        refine fZ hP fun n => ?_
        obtain⟨z1,z2⟩:=yO (q2.dr n) (id:=id) uO (lo:=Ti) m1 .busy r1.iz
        have ab5:({ Ti with state := .busy,pending:=r1.iz }:Loop)={ Ti with state := .busy }:=by rw[← m3]
        rw[ab5] at z1 z2
        have acn:(Instr.beginRound (x.μ id)).run P (y.w.at n) = .ok () (bE (y.w.at n) (x.μ id) (.loop { Ti with state := .busy })):=by
         have hg:=gC (P:=P) (w:=y.w.at n) (show (y.w.at n).heap[x.μ id]? = _ from(by rw[← hμy]; exact m1)) (by simp)
         have hs:=iF (P:=P) (w:=y.w.at n) (o := .loop { Ti with state := .busy }) (show (y.w.at n).heap[x.μ id]? = _ from(by rw[← hμy]; exact m1)) (by simp)
         have Mc:Ti.state = .ready:=by rw[m2]; exact hst
         simp only[Instr.beginRound,Instr.getLoop,Sem.run_bind,hg,Result.andThen_ok,Sem.run_pure,hs,Mc]
        obtain⟨es,hstep⟩:=OT (P:=P) (a:=a1) (k:=[.code r.body]) (cs:=fr::cs) Zd hBr acn
        refine⟨_,_,_,es,hstep,?_⟩
        generalize hz:(y.dr n).rJ id (.loop { Ti with state := .busy }) (.loop { r1 with st := .busy,iz:=r1.iz })=z at z1 z2
        have hzS:z.S=y.S.set id (.loop { r1 with st := .busy }):=by rw[← hz]; rfl
        have hzw:z.w=bE (y.w.at n) (x.μ id) (.loop { Ti with state := .busy }):=by
         rw[← hz]
         show bE (y.w.at n) (y.μ id) _=_
         rw[hμy]
        rw[← hzw]
        have MYZ:=(dD y n).trans z2
        rw[← hzS] at h2
        refine lI (n0:=0) (ds:=ds1) (b:=B) (cs:=fr::cs) (k:=[]) (fF:=true) hP hc Zd hBf (by simp) r.body (lD gd _) h2 z1 (q4.mono MYZ) (q5.mono MYZ) (Nat.zero_le _) fun u a2 Zk p1 p2 p3 p4 p5 => ?_
        subst p1
        obtain⟨UU,n1,-⟩:=pz p2 LK
        have hμu:u.μ id=x.μ id:=by
         have:=(p3.dg id _ (show z.S[id]? = some (.loop { r1 with st := .busy }) by rw[hzS,cI uO,if_pos rfl]) rfl).1
         rw[this,← hz]
         exact hμy
        have MXU:=(q3.trans MYZ).trans p3
        have fin:∀ st pd,∀ n2,(Instr.endRound (x.μ id) pd).run P (u.w.at n2) = .ok (.bool pd.isNone) (bE (u.w.at n2) (x.μ id) (.loop { UU with state:=if pd.isNone then .ready else .done,pending:=pd }))→st=(if pd.isNone then LoopState.ready else .done)→S'=u.S.set id (.loop { r2 with st:=st,iz:=pd })→v = .val (.bool pd.isNone) →
          ff P af () (G (fr.finish (.bool pd.isNone)) cs) (bE (u.w.at n2) (x.μ id) (.loop { UU with state:=if pd.isNone then .ready else .done,pending:=pd })):=by
         intro st pd n2 _ Mv xE hv
         obtain⟨y1,y2⟩:=yO (p2.dr n2) (id:=id) LK (lo:=UU) n1 st pd
         have:=hn ((u.dr n2).rJ id (.loop { UU with state:=st,pending:=pd }) (.loop { r2 with st:=st,iz:=pd })) (.bool pd.isNone) ⟨xE.symm,y1,(MXU.trans (dD u n2)).trans y2,by rw[hv]; exact .val rfl⟩
         have e:((u.dr n2).rJ id (.loop { UU with state:=st,pending:=pd }) (.loop { r2 with st:=st,iz:=pd })).w=bE (u.w.at n2) (x.μ id) (.loop { UU with state:=if pd.isNone then .ready else .done,pending:=pd }):=by
          show bE (u.w.at n2) (u.μ id) _=_
          rw[hμu,Mv]
         rw[e] at this
         exact this
        have oJ:∀ pd n2,(Instr.endRound (x.μ id) pd).run P (u.w.at n2) = .ok (.bool pd.isNone) (bE (u.w.at n2) (x.μ id) (.loop { UU with state:=if pd.isNone then .ready else .done,pending:=pd })):=by
         intro pd n2
         have hg:=gC (P:=P) (w:=u.w.at n2) (show (u.w.at n2).heap[x.μ id]? = _ from(by rw[← hμu]; exact n1)) (by simp)
         have hs:=fun o=>iF (P:=P) (w:=u.w.at n2) (o:=o) (show (u.w.at n2).heap[x.μ id]? = _ from(by rw[← hμu]; exact n1)) (by simp)
         simp only[Instr.endRound,Instr.getLoop,Sem.run_bind,hg,Result.andThen_ok,Sem.run_pure,hs]
        cases e with
        | normal =>
         simp only[Option.some.injEq,Prod.mk.injEq] at h
         refine fZ hP fun n2 => ?_
         obtain⟨TQ,xm⟩:=Df (P:=P) (a:=a2) (c:=fr) (cs:=cs) TM hBr (oJ none n2)
         exact⟨_,_,_,TQ,xm,fin .ready none n2 (oJ none n2) rfl h.2.symm h.1.symm⟩
        | ret =>
         simp only[Option.some.injEq,Prod.mk.injEq] at h
         intro k'
         refine fZ hP fun n2 => ?_
         obtain⟨TQ,xm⟩:=De (P:=P) (a:=a2) (k:=k') (c:=fr) (cs:=cs) TM hBr (oJ (some .ret) n2)
         exact⟨_,_,_,TQ,xm,fin .done (some .ret) n2 (oJ (some .ret) n2) rfl h.2.symm h.1.symm⟩
        | exit i =>
         simp only[Option.some.injEq,Prod.mk.injEq] at h
         intro k' pZ
         refine fZ hP fun n2 => ?_
         obtain⟨TQ,xm⟩:=AK (P:=P) (a:=a2) (k:=k') (c:=fr) (cs:=cs) TM hBr pZ (oJ (some (.exit i)) n2)
         exact⟨_,_,_,TQ,xm,fin .done (some (.exit i)) n2 (oJ (some (.exit i)) n2) rfl h.2.symm h.1.symm⟩
       ·cases h
      ·cases h
     ·cases h
    ·cases h
   ·cases h
  ·cases h
 ·cases h
end Go.Di
end
