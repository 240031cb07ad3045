import Derived.Test.YtedcgbkilmlbhaaGreatPk23
import Derived.RangeFuncIn
section
namespace Go.Di
open Go Go.Conc Go.Co
variable {P:Program} {aa:Machine→Trace→Prop} {ty:fI} {x:Cx} {aI:bM} {call:bz} {yf:eE}
def uW (P:Program) (aa:Machine→Trace→Prop) (ty:fI) (aI:bM) (call:bz) (yf:eE) (id:Nat) (ops:Array Oper) (draw:Bool):Prop :=
 ∀ {env aC:List DV} {S':ak} {x:Cx} {a:Act} {b:Frame} {k:List Item} {cs:List Frame},nB P ty aI call yf ops draw env x.S=some (aC,S')→b.kind ≠ .early→Rel x→fR x env a.tmps →
  (∀ y a',y.S=S'→Rel y→bE x y→fR y aC a'.tmps→a'.defers=a.defers→gM P aa () (G (b.atR a' k) cs) y.w)→gM P aa () (G (b.atR a (.code (.region id ops draw)::k)) cs) x.w
def Ae (P:Program) (aa:Machine→Trace→Prop) (ty:fI) (aI:bM) (call:bz) (yf:eE):Code→Prop
 | .region id ops draw=>uW P aa ty aI call yf id ops draw
 | .seq a b | .cond _ a b=>Ae P aa ty aI call yf a∧Ae P aa ty aI call yf b
 | .block _ c | .loop c | .scope c=>Ae P aa ty aI call yf c
 | _=>True
theorem LR (hP:Plain P) (ee:iO P ty) (hc:gL P aa call) (hi:xZ P aa aI) (Hq:xY P aa yf) (id:Nat) (ops:Array Oper):uW P aa ty aI call yf id ops false:=by
 intro env aC S' x a b k cs h hk hR he hn
 simp only[nB,aD,if_false] at h
 refine eH hP (fun w=>⟨_,LU⟩) ?_
 have:=D3 hP ee hc hi Hq hk ops.toList [] rfl h hR he hn
 rw[List.range_eq_range']
 simpa using this
def E8 (P:Program) (aa:Machine→Trace→Prop) (b:Frame) (k:List Item) (cs:List Frame):DX→Act→World→Prop
 | .normal,a,w=>gM P aa () (G (b.atR a k) cs) w
 | .exit id,a,w=>∀ k',exitTo id k'=exitTo id k→gM P aa () (G (b.atR a (.code (.exit id)::k')) cs) w
 | .ret,a,w=>∀ k',gM P aa () (G (b.atR a (.code .ret::k')) cs) w
theorem E8.push {b:Frame} {k:List Item} {cs:List Frame} {e:DX} {a:Act} {w:World} {i:Item} (hi:∀ id,exitTo id (i::k)=exitTo id k) (he:e ≠ .normal) (h:E8 P aa b k cs e a w):E8 P aa b (i::k) cs e a w:=by
 cases e with
 | normal=>exact absurd rfl he
 | exit id=>exact fun k' sS=>h k' (sS.trans (hi id))
 | ret=>exact h
def qO (n0:Nat) (x:Cx) (ds:List Nat) (l:List Deferred):Prop:=l=ds.map (fun id=>{ target := .collected (x.μ id),args:=#[] })∧ds.Nodup∧∀ id∈ds,n0≤id∧x.S[id]? = some .defer∧x.w.heap[x.μ id]? = some (.deferred (some []))
theorem qO.mono {n0:Nat} {y:Cx} (M:bE x y) {ds:List Nat} {l:List Deferred} (h:qO n0 x ds l):qO n0 y ds l:=by
 obtain⟨h1,h2,h3⟩:=h
 have hμ:∀ id∈ds,y.μ id=x.μ id:=fun id hid=>(M.dD id _ (h3 id hid).2.1 rfl).1
 refine⟨?_,h2,fun id hid => ?_⟩
 ·rw[h1]
  exact List.map_congr_left fun id hid=>by rw[hμ id hid]
 ·obtain⟨q1,q2,q3⟩:=h3 id hid
  obtain⟨r1,⟨b',r2,r3⟩,r4⟩:=M.dD id _ q2 rfl
  have:b' = .defer:=by cases b'<;>first | rfl | exact r3.elim
  subst this
  exact⟨q1,r2,by rw[hμ id hid,r4 rfl]; exact q3⟩
theorem xA (n0:Nat) (x:Cx):qO n0 x [] []:=⟨rfl,List.nodup_nil,by simp⟩
theorem Ev {b : Frame} {a : Act} {k : List Item} {cs : List Frame} {w : World} {g : Operand} {ps : Array Tmp} {assign body : Code} {f : FuncId} {fs vs : Array Value} {fn : Func} {c : Code} (hk : b.kind ≠ .early) (hr : b.roundOf = none) (hg : a.eval g = .func (.func f) fs vs) (hf : P.funcs[f]? = some fn) (hb : fn.body = some c) (uP : (fn.name == "runtime.NumGoroutine") = false) :
  ∃ es,stepG P true (G (b.atR a (.code (.rangeFunc g ps assign body)::k)) cs) w =
   .go (G (Frame.enter P f (fs++#[.func (.yield (w.heap.size+1)) #[] #[]]++vs) .normal) (b.atR { a with defers:={ target := .collected w.heap.size,args:=#[] }::a.defers } (.inRangeFunc (w.heap.size+1)::k)::cs))
    ((w.alloc (.deferred (some []))).alloc (.loop { state := .ready,pending:=none,fn:=b.fn,tmps:=a.tmps,params:=ps,assign,body,defers:=w.heap.size })) es:=by
 have sS:(b.kind==CallKind.early)=false:=by simpa using hk
 have sU:=Frame.eval_atR b { a with defers:={ target := .collected w.heap.size,args:=#[] }::a.defers } (.inRangeFunc (w.heap.size+1)::k)
 simp only[Frame.atR,hr] at sU
 have ac3:({ tmps:=a.tmps,defers:={ target := .collected w.heap.size,args:=#[] }::a.defers }:Act).eval g = .func (.func f) fs vs:=by
  rw[← hg]; cases g<;>rfl
 have Nv:∀ (w2:World),(do let d ← resolve ({ tmps:=a.tmps,defers:={ target := .collected w.heap.size,args:=#[] }::a.defers }:Act).eval { callee := .value g,args:=#[.const (.func (.yield (w.heap.size+1)) #[] #[])],argTypes:=#[] } 0; invoke d.target d.args:Sem Next).run P w2 = .ok (.enter f (fs++#[.func (.yield (w.heap.size+1)) #[] #[]]++vs)) w2:=by
  intro w2
  have acX:∀ (a:Act) (v:Value),a.eval (.const v)=v:=fun _ _=>rfl
  have hn2 : ¬ fn.name = "runtime.NumGoroutine" := by simpa using uP
  simp[resolve,ac3,acX,Deferred.ofValue,invoke,callFunc,hf,hn2,hb]
 have Ic:(Instr.enterLoop b.fn a.tmps ps assign body none).run P w = .ok (w.heap.size+1,[{ target := .collected w.heap.size,args:=#[] }])
   ((w.alloc (.deferred (some []))).alloc (.loop { state := .ready,pending:=none,fn:=b.fn,tmps:=a.tmps,params:=ps,assign,body,defers:=w.heap.size })):=by
  simp[Instr.enterLoop]
 simp only[G,stepG,stepG.exec,Frame.atR,hr,Sem.runT_eq,Ic,stepG.apply,sU,if_true,Nv,sS,List.singleton_append,GStep.after,aD,if_false]
 exact⟨_,rfl⟩
end Go.Di
end
section
namespace Go.Di
open Go Go.Conc Go.Co
variable {P:Program} {aa:Machine→Trace→Prop} {ty:fI} {x:Cx} {aI:bM} {call:bz} {yf:eE}
theorem GN {b:Frame} {a:Act} {k:List Item} {cs:List Frame} {w w':World} {l:Nat} {jump:Option Code} (h:(Instr.endLoop l).run P w = .ok jump w') :
  ∃ es,stepG P true (G (b.atR a (.endRangeFunc l::k)) cs) w = .go (G (b.atR a ((jump.map Item.code).toList++k)) cs) w' es:=by
 simp only[G,stepG,stepG.exec,Frame.atR,Sem.runT_eq,h,GStep.after]
 exact⟨_,rfl⟩
theorem qY (hR:Rel x) {id:Nat} {r:JK} (h:x.S[id]? = some (.loop r)):∃ lo,x.w.heap[x.μ id]? = some (.loop lo)∧lo.state=r.st∧lo.pending=r.jk∧lo.fn=r.fn∧fR x r.env lo.tmps∧lo.params=r.params.toArray∧lo.assign=r.assign∧lo.body=r.body∧lo.defers=x.μ r.dfr∧x.S[r.dfr]? = some .defer:=by
 obtain⟨o,h1,h2⟩:=hR.dD id _ h rfl
 cases o<;>simp only[qM] at h2
 exact⟨_,h1,h2⟩
theorem Ah (hR:Rel x) {id:Nat} {r:JK} (h:x.S[id]? = some (.loop r)) {lo:Loop} (MR:x.w.heap[x.μ id]? = some (.loop lo)) (st:LoopState) (pd:Option Code) :
  Rel (x.tw id (.loop { lo with state:=st,pending:=pd }) (.loop { r with st:=st,jk:=pd }))∧bE x (x.tw id (.loop { lo with state:=st,pending:=pd }) (.loop { r with st:=st,jk:=pd })):=by
 obtain⟨lo',h1,h2,h3,h4,h5,h6,h7,h8,h9,uD⟩:=qY hR h
 rw[MR] at h1
 cases h1
 have M:=xb (x:=x) (o := .loop { lo with state:=st,pending:=pd }) (b := .loop { r with st:=st,jk:=pd }) hR h rfl (by simp)
 refine⟨FT hR h rfl (by simp) ⟨rfl,rfl,h4,h5.mono M,h6,h7,h8,h9,?_⟩,M⟩
 show (x.S.set _ _)[_]? = _
 rw[fK h,if_neg (by rintro e; rw[e,h] at uD; cases uD)]
 exact uD
theorem Ki (S:ak):Bw S S.length := .inl rfl
theorem ya (S:ak) (b:DB):dP S S.length b=S++[b]:=by unfold dP; rw[if_neg (by omega)]
set_option maxHeartbeats 1000000 in
theorem vH (hP:Plain P) (hc:gL P aa call) {L:Nat} {fn:FuncId} {gW:Bool} {n0:Nat} {b:Frame} {cs:List Frame} (hk:b.kind ≠ .early) (Nr:b.fn=fn) (UH:gW=false→b.roundOf=none) :
  ∀ (c:Code),Ae P aa ty aI call yf c→∀ {k:List Item} {env aC:List DV} {S':ak} {e:DX} {a:Act} {x:Cx} {ds:List Nat},ct P ty aI call yf L fn gW c env x.S=some (e,aC,S')→Rel x→fR x env a.tmps→qO n0 x ds a.defers→n0≤x.S.length →
   (∀ y a' gT,y.S=S'→Rel y→bE x y→fR y aC a'.tmps→qO n0 y gT a'.defers→E8 P aa b k cs e a' y.w)→gM P aa () (G (b.atR a (.code c::k)) cs) x.w:=by
 intro c
 induction c with
 | skip =>
  intro _ k env aC S' e a x ds h hR he hd uw hn
  simp only[ct,az,av] at h
  obtain⟨rfl,rfl,rfl⟩:=h
  exact eH hP (fun w=>⟨_,Tk⟩) (hn x a ds rfl hR (bE.refl x) he hd)
 | label l =>
  intro _ k env aC S' e a x ds h hR he hd uw hn
  simp only[ct,az,av] at h
  obtain⟨rfl,rfl,rfl⟩:=h
  exact eH hP (fun w=>⟨_,PY⟩) (hn x a ds rfl hR (bE.refl x) he hd)
 | region id ops draw =>
  intro j5 k env aC S' e a x ds h hR he hd uw hn
  simp only[ct,ah,av] at h
  obtain⟨⟨nR,S1⟩,h1,rfl,rfl,rfl⟩:=h
  exact j5 h1 hk hR he fun y a' q1 q2 q3 q4 q5=>hn y a' ds q1 q2 q3 q4 (by rw[q5]; exact hd.mono q3)
 | seq c1 c2 K0 MJ =>
  intro j5 k env aC S' e a x ds h hR he hd uw hn
  simp only[ct] at h
  refine eH hP (fun w=>⟨_,XZ⟩) ?_
  split at h
  ·rename_i nR S1 h1
   refine K0 j5.1 h1 hR he hd uw fun y a' gT q1 q2 q3 q4 q5 => ?_
   subst q1
   exact MJ j5.2 h q2 q4 q5 (bk uw q3.len) fun z a'' Xg r1 r2 r3 r4 r5=>hn z a'' Xg r1 r2 (q3.trans r3) r4 r5
  ·rename_i r hne
   refine K0 j5.1 h hR he hd uw fun y a' gT q1 q2 q3 q4 q5=>E8.push (fun _=>rfl) ?_ (hn y a' gT q1 q2 q3 q4 q5)
   rintro rfl
   exact hne _ _ h
 | cond o c1 c2 K0 MJ =>
  intro j5 k env aC S' e a x ds h hR he hd uw hn
  simp only[ct] at h
  split at h
  ·rename_i ho
   have hv:=tI (tO he _ _ ho)
   refine eH hP (fun w=>⟨_,J4 hv⟩) ?_
   rw[if_pos rfl]
   exact K0 j5.1 h hR he hd uw hn
  ·rename_i ho
   have hv:=tI (tO he _ _ ho)
   refine eH hP (fun w=>⟨_,J4 hv⟩) ?_
   rw[if_neg (by simp)]
   exact MJ j5.2 h hR he hd uw hn
  ·cases h
 | block id c ih =>
  intro j5 k env aC S' e a x ds h hR he hd uw hn
  simp only[ct] at h
  refine eH hP (fun w=>⟨_,PZ⟩) ?_
  split at h
  ·rename_i gR nR S1 h1
   cases h
   refine ih j5 h1 hR he hd uw fun y a' gT q1 q2 q3 q4 q5 => ?_
   have hf:=hn y a' gT q1 q2 q3 q4 q5
   intro k' sS
   simp only[exitTo] at sS
   by_cases hid:gR=id
   ·subst hid
    simp only[beq_self_eq_true,if_true] at sS hf
    exact eH hP (fun w=>⟨_,Tn sS⟩) hf
   ·rw[if_neg hid] at hf
    have:(id==gR)=false:=by simpa using fun e=>hid e.symm
    rw[this] at sS
    exact hf k' sS
  ·rename_i r hne
   refine ih j5 h hR he hd uw fun y a' gT q1 q2 q3 q4 q5 => ?_
   have hf:=hn y a' gT q1 q2 q3 q4 q5
   cases e with
   | normal=>exact eH hP (fun w=>⟨_,ID⟩) hf
   | exit gR=>exact absurd h (hne _ _ _)
   | ret=>exact hf
 | loop c ih =>
  intro j5 k env aC S' e a x ds h hR he hd uw hn
  simp only[ct] at h
  refine eH hP (fun w=>⟨_,Tl⟩) ?_
  have key:∀ n {env:List DV} {a:Act} {x:Cx} {ds:List Nat},lG (ct P ty aI call yf L fn gW c) n env x.S=some (e,aC,S')→Rel x→fR x env a.tmps→qO n0 x ds a.defers→n0≤x.S.length →
    (∀ y a' gT,y.S=S'→Rel y→bE x y→fR y aC a'.tmps→qO n0 y gT a'.defers→E8 P aa b k cs e a' y.w)→gM P aa () (G (b.atR a (.code c :: .inLoop c::k)) cs) x.w:=by
   intro n
   induction n with
   | zero=>intro env a x ds h; simp[lG] at h
   | succ n ihn =>
    intro env a x ds h hR he hd uw hn
    unfold lG at h
    split at h
    ·rename_i nR S1 h1
     refine ih j5 h1 hR he hd uw fun y a' gT q1 q2 q3 q4 q5 => ?_
     subst q1
     exact eH hP (fun w=>⟨_,LV⟩) (ihn h q2 q4 q5 (bk uw q3.len) fun z a'' Xg r1 r2 r3 r4 r5=>hn z a'' Xg r1 r2 (q3.trans r3) r4 r5)
    ·rename_i r hne
     refine ih j5 h hR he hd uw fun y a' gT q1 q2 q3 q4 q5=>E8.push (fun _=>rfl) ?_ (hn y a' gT q1 q2 q3 q4 q5)
     rintro rfl
     exact hne _ _ h
  exact key L h hR he hd uw hn
 | scope c ih =>
  intro j5 k env aC S' e a x ds h hR he hd uw hn
  simp only[ct] at h
  refine eH hP (fun w=>⟨_,PW⟩) ?_
  refine ih j5 h hR he hd uw fun y a' gT q1 q2 q3 q4 q5 => ?_
  have hf:=hn y a' gT q1 q2 q3 q4 q5
  cases e with
  | normal=>exact eH hP (fun w=>⟨_,IC⟩) hf
  | exit gR=>exact E8.push (fun _=>rfl) (by simp) hf
  | ret=>exact hf
 | exit id =>
  intro _ k env aC S' e a x ds h hR he hd uw hn
  simp only[ct,az,av] at h
  obtain⟨rfl,rfl,rfl⟩:=h
  exact hn x a ds rfl hR (bE.refl x) he hd k rfl
 | ret =>
  intro _ k env aC S' e a x ds h hR he hd uw hn
  simp only[ct,az,av] at h
  obtain⟨rfl,rfl,rfl⟩:=h
  exact hn x a ds rfl hR (bE.refl x) he hd k
 | goto l=>intro _ k env aC S' e a x ds h; simp[ct] at h
 | refuse why=>intro _ k env aC S' e a x ds h; simp[ct] at h
 | rangeFunc f ps K6 body _ _ =>
  intro _ k env aC S' e a x ds h hR he hd uw hn
  simp only[ct] at h
  split at h
  ·cases h
  ·rename_i acI
   have hro:=UH (by simpa using acI)
   split at h
   ·rename_i g fs vs hf
    have UL:=tO he _ _ hf
    generalize hv:a.eval f=vf at UL
    cases UL with
    | @fn _ _ _ vfs vcs k1 k2 k3 k4 =>
     split at h
     ·rename_i u S1 h1
      refine gP hP fun n => ?_
      have hRn:=hR.dr n
      have Mn:=ej x n
      have V9:mH (x.w.at n) ((x.w.at n).alloc (.deferred (some []))) (.deferred (some [])):=fE _ _
      have Ry:=kg (x:=x.dr n) (k:=0) (F:=fun _=>False) (b := .defer) hRn (Ki x.S) V9 (by simp) (.inr (.inr (.inl ⟨rfl,by simp,trivial⟩)))
      have M1:=iy (x:=x.dr n) (k:=0) (F:=fun _=>False) (b := .defer) hRn (Ki x.S) V9
      generalize EP:(x.dr n).fresh ((x.w.at n).alloc (.deferred (some []))) x.S.length 0 (fun _=>False) .defer=x1 at Ry M1
      have UQ:x1.S=x.S++[.defer]:=by rw[← EP]; exact ya x.S _
      have Jf:x1.w=(x.w.at n).alloc (.deferred (some [])):=by rw[← EP]; rfl
      have hμ1:x1.μ x.S.length=x.w.heap.size:=by rw[← EP]; exact if_pos rfl
      have Ju:x1.S.length=x.S.length+1:=by rw[UQ]; simp
      have YV:mH x1.w (((x.w.at n).alloc (.deferred (some []))).alloc (.loop { state := .ready,pending:=none,fn:=b.fn,tmps:=a.tmps,params:=ps,assign:=K6,body,defers:=x.w.heap.size })) (.loop { state := .ready,pending:=none,fn:=b.fn,tmps:=a.tmps,params:=ps,assign:=K6,body,defers:=x.w.heap.size }):=by
       rw[Jf]; exact fE _ _
      have Vx:Bw x1.S (x.S.length+1) := .inl Ju.symm
      have M2:=iy (x:=x1) (k:=0) (F:=fun _=>False) (b := .loop ⟨.ready,none,fn,env,ps.toList,K6,body,x.S.length⟩) Ry Vx YV
      generalize Bt:x1.fresh (((x.w.at n).alloc (.deferred (some []))).alloc (.loop { state := .ready,pending:=none,fn:=b.fn,tmps:=a.tmps,params:=ps,assign:=K6,body,defers:=x.w.heap.size })) (x.S.length+1) 0 (fun _=>False) (.loop ⟨.ready,none,fn,env,ps.toList,K6,body,x.S.length⟩)=x2 at M2
      have EH:x2.S=x.S++[.defer,.loop ⟨.ready,none,fn,env,ps.toList,K6,body,x.S.length⟩]:=by
       rw[← Bt]
       show dP x1.S (x.S.length+1) _=_
       rw[← Ju,ya,UQ]
       simp
      have hw2:x2.w=((x.w.at n).alloc (.deferred (some []))).alloc (.loop { state := .ready,pending:=none,fn:=b.fn,tmps:=a.tmps,params:=ps,assign:=K6,body,defers:=x.w.heap.size }):=by rw[← Bt]; rfl
      have hμ2:x2.μ (x.S.length+1)=x.w.heap.size+1:=by
       rw[← Bt]
       show (if _ then x1.w.heap.size else _)=_
       rw[if_pos rfl,Jf]
       simp[World.at]
      have hμ2':x2.μ x.S.length=x.w.heap.size:=by
       rw[← Bt]
       show (if _ then _ else x1.μ x.S.length)=_
       rw[if_neg (by omega),hμ1]
      have MM:=(Mn.trans M1).trans M2
      have hR2:Rel x2:=by
       have:=kg (x:=x1) (k:=0) (F:=fun _=>False) (b := .loop ⟨.ready,none,fn,env,ps.toList,K6,body,x.S.length⟩) Ry Vx YV (by simp) (.inr (.inr (.inl ⟨rfl,by simp,?_⟩)))
       ·rw[Bt] at this; exact this
       ·rw[Bt]
        refine⟨rfl,rfl,Nr,he.mono MM,by simp,rfl,rfl,hμ2'.symm,?_⟩
        rw[EH]
        simp
      have Oo:qO n0 x2 (x.S.length::ds) ({ target := .collected x.w.heap.size,args:=#[] }::a.defers):=by
       obtain⟨q1,q2,q3⟩:=hd.mono MM
       refine⟨by rw[bD,hμ2',q1],List.nodup_cons.2 ⟨fun hm => ?_,q2⟩,fun id hid => ?_⟩
       ·have:=(aJ.1 (hd.2.2 _ hm).2.1).1
        omega
       ·rcases bt.1 hid with rfl | hid
        ·refine⟨uw,by rw[EH]; simp,?_⟩
         rw[hμ2',hw2]
         have:((x.w.at n).alloc (.deferred (some []))).heap.size=x.w.heap.size+1:=by simp[World.at]
         rw[(fE _ _).lt (by omega)]
         exact(fE (x.w.at n) _).new
        ·exact q3 id hid
      have lI:fR x2 (fs++[.zx (x.S.length+1)]++vs) (vfs++#[.func (.yield (x.w.heap.size+1)) #[] #[]]++vcs):=by
       have e1:fR x2 fs vfs:=fR.mono MM ⟨k1,k3⟩
       have e2:fR x2 vs vcs:=fR.mono MM ⟨k2,k4⟩
       refine kA (kA e1 ⟨rfl,fun j c hj => ?_⟩) e2
       cases j with
       | zero =>
        simp only[List.getElem?_cons_zero,az] at hj
        subst hj
        show RV x2 _ (.func (.yield (x.w.heap.size+1)) #[] #[])
        rw[← hμ2]
        exact .zx (r:=⟨.ready,none,fn,env,ps.toList,K6,body,x.S.length⟩) (by rw[EH]; simp)
       | succ j=>simp at hj
      obtain⟨⟨wj,cd,Ns,UM⟩,acU⟩:=hc _ _ _ _ _ h1 x2 _ hR2 EH lI
      obtain⟨es,hstep⟩:=Ev (P:=P) (b:=b) (a:=a) (k:=k) (cs:=cs) (w:=x.w.at n) (g:=f) (ps:=ps) (assign:=K6) (body:=body) hk hro hv Ns UM (hP.count g wj Ns)
      refine⟨_,_,_,es,hstep,?_⟩
      have VD:=acU (b.atR { a with defers:={ target := .collected x.w.heap.size,args:=#[] }::a.defers } (.inRangeFunc (x.w.heap.size+1)::k)) cs fun y u hp => ?_
      ·rw[hw2] at VD
       exact VD
      obtain⟨hyS,hyR,UD,-⟩:=hp
      subst hyS
      rw[finish_atR_inRangeFunc]
      have MY:=MM.trans UD
      split at h
      ·rename_i r hr
       split at h
       ·cases h
       ·rename_i abz
        have hμy:y.μ (x.S.length+1)=x.w.heap.size+1:=by
         rw[(UD.dD _ _ (show x2.S[x.S.length+1]? = some (.loop ⟨.ready,none,fn,env,ps.toList,K6,body,x.S.length⟩) by rw[EH]; simp) rfl).1,hμ2]
        obtain⟨lo,l1,l2,l3,-⟩:=qY hyR hr
        rw[hμy] at l1
        obtain⟨z1,z2⟩:=Ah hyR hr (by rw[hμy]; exact l1) .exhausted r.jk
        have hwz:(y.tw (x.S.length+1) (.loop { lo with state := .exhausted,pending:=r.jk }) (.loop { r with st := .exhausted,jk:=r.jk })).w=bR y.w (x.w.heap.size+1) (.loop { lo with state := .exhausted,pending:=r.jk }):=by
         show bR y.w (y.μ _) _=_
         rw[hμy]
        have hSz:(y.tw (x.S.length+1) (.loop { lo with state := .exhausted,pending:=r.jk }) (.loop { r with st := .exhausted,jk:=r.jk })).S=y.S.set (x.S.length+1) (.loop { r with st := .exhausted }):=rfl
        generalize y.tw (x.S.length+1) (.loop { lo with state := .exhausted,pending:=r.jk }) (.loop { r with st := .exhausted,jk:=r.jk })=z at z1 z2 hwz hSz
        have MZ:=MY.trans z2
        refine gP hP fun n2 => ?_
        have abv:(Instr.endLoop (x.w.heap.size+1)).run P (y.w.at n2) = .ok r.jk (z.w.at n2):=by
         have hg:=ir (P:=P) (w:=y.w.at n2) (show (y.w.at n2).heap[x.w.heap.size+1]? = _ from l1) (by simp)
         have hs:=jo (P:=P) (w:=y.w.at n2) (o := .loop { lo with state := .exhausted,pending:=r.jk }) (show (y.w.at n2).heap[x.w.heap.size+1]? = _ from l1) (by simp)
         have hb:(lo.state==LoopState.busy)=false:=by rw[l2]; simpa using abz
         simp only[Instr.endLoop,Instr.getLoop,Sem.run_bind,hg,Result.andThen_ok,Sem.run_pure,hb,aD,if_false,hs,l3]
         rw[hwz]
         rfl
        obtain⟨UX,yK⟩:=GN (P:=P) (b:=b) (a:={ a with defers:={ target := .collected x.w.heap.size,args:=#[] }::a.defers }) (k:=k) (cs:=cs) abv
        refine⟨_,_,_,UX,yK,Fc ?_ n2⟩
        have tE:=hn z { a with defers:={ target := .collected x.w.heap.size,args:=#[] }::a.defers } (x.S.length::ds)
        split at h
        ·rename_i ZA
         simp only[az,av] at h
         obtain⟨rfl,rfl,rfl⟩:=h
         rw[ZA]
         exact tE hSz z1 MZ (he.mono MZ) ((Oo.mono UD).mono z2)
        ·rename_i ZA
         simp only[az,av] at h
         obtain⟨rfl,rfl,rfl⟩:=h
         rw[ZA]
         exact tE hSz z1 MZ (he.mono MZ) ((Oo.mono UD).mono z2) k
        ·rename_i e' ZA
         simp only[az,av] at h
         obtain⟨rfl,rfl,rfl⟩:=h
         rw[ZA]
         exact tE hSz z1 MZ (he.mono MZ) ((Oo.mono UD).mono z2) k rfl
        ·cases h
      ·cases h
     ·cases h
   ·cases h
end Go.Di
end
section
namespace Go.Di
open Go Go.Conc Go.Co
variable {P:Program} {aa:Machine→Trace→Prop} {ty:fI} {x:Cx} {aI:bM} {call:bz} {yf:eE}
theorem vA (h:∀ id ops draw,uW P aa ty aI call yf id ops draw):∀ c,Ae P aa ty aI call yf c:=by
 intro c
 induction c with
 | region id ops draw=>exact h id ops draw
 | seq a b iha ihb=>exact⟨iha,ihb⟩
 | cond o a b iha ihb=>exact⟨iha,ihb⟩
 | block id c ih=>exact ih
 | loop c ih=>exact ih
 | scope c ih=>exact ih
 | _=>trivial
def K8 (tmps:Array Value):ResultVar→Sem Value
 | .tmp t=>pure (tmps.getD t undef)
 | .cell a t=>do loadVar t (← asAddr (tmps.getD a undef))
theorem Iy (fn:Func) (tmps:Array Value):results fn tmps=(do let vs ← fn.results.mapM (K8 tmps); pure (if h:vs.size=1 then vs[0] else .tuple vs)):=by
 have:(fun | .tmp t=>pure (tmps.getD t undef) | .cell a t=>do loadVar t (← asAddr (tmps.getD a undef)):ResultVar→Sem Value)=K8 tmps:=by
  funext r; cases r<;>rfl
 rw[← this]
 rfl
theorem D5 (ee:iO P ty) {env:List DV} {tmps:Array Value} (hR:Rel x) (he:fR x env tmps):∀ {rs:List ResultVar} {l:List DV},qE ty env x.S rs=some l →
  ∃ vs:List Value,(rs.mapM (K8 tmps)).run P x.w = .ok vs x.w∧fR x l vs.toArray
 | [],l,h=>by
  simp only[qE,az] at h
  subst h
  exact⟨[],rfl,rfl,by simp⟩
 | .tmp t::rs,l,h=>by
  simp only[qE,ah] at h
  obtain⟨l',h1,rfl⟩:=h
  obtain⟨vs,h2,h3,h4⟩:=D5 ee hR he h1
  have hv:RV x (env.getD t aX) (tmps.getD t undef):=tO (a:=⟨tmps,[]⟩) he (.tmp t) _ rfl
  refine⟨tmps.getD t undef::vs,by simp only[List.mapM_cons,K8,Sem.run_bind,Sem.run_pure,Result.andThen_ok,h2],by simpa using h3,fun j c hc => ?_⟩
  cases j with
  | zero=>simp only[List.getElem?_cons_zero,az] at hc; subst hc; exact hv
  | succ j=>simpa [aT] using h4 j c (by simpa using hc)
 | .cell a t::rs,l,h=>by
  unfold qE at h
  split at h
  ·rename_i d l' h0 h1
   cases h
   obtain⟨vs,h2,h3,h4⟩:=D5 ee hR he h1
   have hv:RV x (env.getD a aX) (tmps.getD a undef):=tO (a:=⟨tmps,[]⟩) he (.tmp a) _ rfl
   obtain⟨v,h5,h6⟩:=Gb ee hR hv h0
   have hrun:(K8 tmps (.cell a t)).run P x.w = .ok v x.w:=by
    show (do loadVar t (← asAddr (tmps.getD a undef)):Sem Value).run P x.w=_
    generalize tmps.getD a undef=u at hv h5
    unfold jr at h0
    generalize env.getD a aX=da at hv h0
    split at h0
    ·cases hv; simpa [Instr.loadAt,Instr.sureAddr,asAddr] using h5
    ·cases hv; simpa [Instr.loadAt,Instr.sureAddr,asAddr] using h5
    ·split at h0
     ·rename_i hop
      obtain⟨hS,Df⟩:=jU hop
      cases hv with
      | eT yZ _ hA =>
       rw[hS] at yZ
       cases yZ
       rw[hA Df] at h5 ⊢
       simpa [Instr.loadAt,Instr.sureAddr,asAddr] using h5
     ·cases h0
    ·cases h0
   refine⟨v::vs,by simp only[List.mapM_cons,Sem.run_bind,hrun,Result.andThen_ok,h2,Sem.run_pure],by simpa using h3,fun j c hc => ?_⟩
   cases j with
   | zero=>simp only[List.getElem?_cons_zero,az] at hc; subst hc; exact h6
   | succ j=>simpa [aT] using h4 j c (by simpa using hc)
  ·cases h
theorem A4 (ee:iO P ty) {fn:Func} {env:List DV} {tmps:Array Value} (hR:Rel x) (he:fR x env tmps) {l:List DV} (h:qE ty env x.S fn.results.toList=some l) :
  ∃ v,(results fn tmps).run P x.w = .ok v x.w∧RV x (oneOf l) v:=by
 obtain⟨vs,h1,h2,h3⟩:=D5 ee hR he h
 have hm:(fn.results.mapM (K8 tmps)).run P x.w = .ok vs.toArray x.w:=by
  rw[Array.mapM_eq_mapM_toList]
  simp only[Sem.run_map,h1,Result.andThen_ok]
 refine⟨if h:vs.toArray.size=1 then vs.toArray[0] else .tuple vs.toArray,?_,?_⟩
 ·rw[Iy]
  simp only[Sem.run_bind,hm,Result.andThen_ok,Sem.run_pure]
 ·match l,vs,h2,h3 with
  | [],[],_,_=>exact .tup rfl (by simp)
  | [d],[v],_,h3=>exact h3 0 d rfl
  | d::e::l,v::u::vs,h2,h3=>exact .tup (by simpa using h2) h3
  | [],_::_,h2,_=>simp at h2
  | [_],[],h2,_=>simp at h2
  | [_],_::_::_,h2,_=>simp at h2
  | _::_::_,[],h2,_=>simp at h2
  | _::_::_,[_],h2,_=>simp at h2
theorem PX {b:Frame} {a:Act} {todo:List Item} {c:Frame} {cs:List Frame} {w:World} {fn:Func} {v:Value} (hn:b.kind = .normal) (hd:a.defers=[]) (hf:P.funcs[b.fn]? = some fn) (hr:(results fn a.tmps).run P w = .ok v w) :
  ∃ es,stepG P true (G { b.at a todo with mode := .returning } (c::cs)) w = .go (G (c.finish v) cs) w es:=by
 simp only[G,stepG,unwind,doReturn,Frame.at,hn,hd,hf,Sem.runT_eq,hr,GStep.after]
 exact⟨_,rfl⟩
theorem J3 {b:Frame} {a:Act} {todo:List Item} {cs:List Frame} {w w':World} {r:Nat} {ds:List Deferred} (hd:a.defers={ target := .collected r,args:=#[] }::ds) (hr:(Instr.takeDeferred r).run P w = .ok [] w') :
  ∃ es,stepG P true (G { b.at a todo with mode := .returning } cs) w = .go (G { b.at { a with defers:=ds } todo with mode := .returning } cs) w' es:=by
 simp only[G,stepG,unwind,Frame.at,hd,Sem.runT_eq,hr,GStep.after,List.nil_append]
 exact⟨_,rfl⟩
theorem JP {x0:Cx} (M:bE x0 x) (hR:Rel x) {id:Nat} (hid:x0.S.length≤id) (hS:x.S[id]? = some .defer) :
  Rel { x with w:=bR x.w (x.μ id) (.deferred none) }∧bE x0 { x with w:=bR x.w (x.μ id) (.deferred none) }∧∀ d v,RV x d v→RV { x with w:=bR x.w (x.μ id) (.deferred none) } d v:=by
 have iZ:=aS hS (show DB.defer ≠ .none by simp)
 have aaq:∀ i,Live x0.S i→i≠id:=by
  rintro i ⟨c,hc,-⟩ rfl
  have:=(aJ.1 hc).1
  omega
 have OY:x0.w.heap.size≤x.μ id:=by
  rcases M.live id iZ with ⟨h,-⟩ | h
  ·exact absurd rfl (aaq id h)
  ·exact h
 have nV:∀ b,b≠x.μ id→(bR x.w (x.μ id) (.deferred none)).heap[b]? = x.w.heap[b]? := fun b hb=>fG _ _ _ hb
 have Hu:∀ b o,x.Fz b o→(bR x.w (x.μ id) (.deferred none)).cell? ⟨b,o,none⟩=x.w.cell? ⟨b,o,none⟩:=fun b o h=>cell_of_block (nV b (by rintro rfl; exact hR.O0 hS rfl o h)) o
 have MO:∀ d v,RV x d v→RV { x with w:=bR x.w (x.μ id) (.deferred none) } d v:=by
  intro d v h
  induction h with
  | val h=>exact .val h
  | agg h _ ih=>exact .agg h ih
  | tup h _ ih=>exact .tup h ih
  | sl hv _ h1 h2 h3 hsp h4 ih=>exact .sl (View.mono (x:=x) (y:={ x with w:=bR x.w (x.μ id) (.deferred none) }) (fun b o h=>⟨h,Hu b o h⟩) hv) ih h1 h2 h3 hsp h4
  | ptr h=>exact .ptr h
  | ey hv _ ih=>exact .ey (View.mono (x:=x) (y:={ x with w:=bR x.w (x.μ id) (.deferred none) }) (fun b o h=>⟨h,Hu b o h⟩) hv) ih
  | fn h1 h2 _ _ K0 MJ=>exact .fn h1 h2 K0 MJ
  | map h=>exact .map h
  | zx h=>exact .zx h
  | gV h h1 h2=>exact .gV h h1 h2
  | eT h h1 h2=>exact .eT h h1 h2
 have hne:∀ i b,x.S[i]? = some b→b ≠ .none→i≠id→x.μ i≠x.μ id:=fun i b hi hb h e=>h (hR.inj i id (aS hi hb) iZ e)
 obtain⟨ob,hob,-⟩:=hR.dD id _ hS rfl
 refine⟨⟨fun i l hl => ?_,fun i e s n hl => ?_,fun i b hb NK => ?_,hR.inj,fun b o h => ?_,hR.sep,hR.ng,fun i e s l z hl => ?_⟩,⟨?_,M.env,fun b o h=>⟨(M.fz b o h).1,?_⟩,M.Ho,fun b hb hn => ?_,M.len,M.cells,fun i b hb NK => ?_,M.dz,M.live,M.ops⟩,MO⟩
 ·obtain⟨arr,e,h1,h2,h3⟩:=hR.cells i l hl
  exact⟨arr,e,(nV _ (hne i _ hl (by simp) (by rintro rfl; rw[hS] at hl; cases hl))).trans h1,h2,fun j c hc=>MO _ _ (h3 j c hc)⟩
 ·obtain⟨arr,h1,h2⟩:=hR.dz i e s n hl
  exact⟨arr,(nV _ (hne i _ hl (by simp) (by rintro rfl; rw[hS] at hl; cases hl))).trans h1,h2⟩
 ·by_cases h:i=id
  ·subst h
   rw[hS] at hb
   cases hb
   exact⟨_,vP _ _ _ _ hob,trivial⟩
  ·obtain⟨o,h1,h2⟩:=hR.dD i b hb NK
   refine⟨o,(nV _ (hne i _ hb (fq NK) h)).trans h1,?_⟩
   cases b<;>cases o<;>simp only[qM] at h2 ⊢<;>first | exact h2 | trivial | (obtain⟨q1,q2,q3,q4,q5⟩:=h2; exact⟨q1,q2,q3,⟨q4.1,fun j c hc=>MO _ _ (q4.2 j c hc)⟩,q5⟩)
 ·obtain⟨v,hv⟩:=hR.xH b o h
  exact⟨v,(Hu b o h).trans hv⟩
 ·obtain⟨arr,h1,h2,h3,h4,h5,h6⟩:=hR.ops i e s l z hl
  exact⟨arr,(nV _ (hne i _ hl (by simp) (by rintro rfl; rw[hS] at hl; cases hl))).trans h1,h2,h3,h4,fun j c hc=>⟨(h5 j c hc).1,MO _ _ (h5 j c hc).2⟩,h6⟩
 ·show _≤(bR x.w _ _).heap.size
  simp only[bR,rT]
  exact M.size
 ·exact(Hu b o (M.fz b o h).1).trans (M.fz b o h).2
 ·exact(nV b (by omega)).trans (M.old b hb hn)
 ·obtain⟨q1,q2,q3⟩:=M.dD i b hb NK
  refine⟨q1,q2,fun hd=>(nV _ ?_).trans (q3 hd)⟩
  rw[← q1]
  obtain⟨b',q4,q5⟩:=q2
  exact hne i b' q4 (fq (qZ q5).2) (aaq i (aS hb (fq NK)))
theorem F5 (hP:Plain P) (ee:iO P ty) {x0:Cx} {b:Frame} {todo:List Item} {c:Frame} {cs:List Frame} {fn:Func} {env:List DV} {l:List DV} (hb:b.kind = .normal) (hf:P.funcs[b.fn]? = some fn) {Sr:ak} :
  ∀ (ds:List Nat) {a:Act} {x:Cx},x.S=Sr→Rel x→bE x0 x→fR x env a.tmps→qO x0.S.length x ds a.defers→qE ty env Sr fn.results.toList=some l →
   (∀ y v,y.S=Sr→Rel y→bE x0 y→RV y (oneOf l) v→gM P aa () (G (c.finish v) cs) y.w)→gM P aa () (G { b.at a todo with mode := .returning } (c::cs)) x.w
 | [],a,x,hS,hR,hM,he,hd,hr,hn=>by
  refine gP hP fun n => ?_
  have Hw:a.defers=[]:=hd.1
  obtain⟨v,h1,h2⟩:=A4 (x:=x.dr n) ee (hR.dr n) (he.mono (ej x n)) (l:=l) (by show qE ty env x.S _=_; rw[hS]; exact hr)
  obtain⟨es,hst⟩:=PX (P:=P) (b:=b) (a:=a) (todo:=todo) (c:=c) (cs:=cs) hb Hw hf h1
  exact⟨_,_,_,es,hst,hn (x.dr n) v hS (hR.dr n) (hM.trans (ej x n)) h2⟩
 | id::ds,a,x,hS,hR,hM,he,hd,hr,hn=>by
  obtain⟨q1,q2,q3⟩:=hd
  obtain⟨r1,r2,r3⟩:=q3 id (by simp)
  refine gP hP fun n => ?_
  have kE:=hR.dr n
  have UT:=hM.trans (ej x n)
  obtain⟨t1,t2,t3⟩:=JP (x:=x.dr n) UT kE r1 r2
  have hg:=ir (P:=P) (w:=x.w.at n) (show (x.w.at n).heap[x.μ id]? = _ from r3) (by simp)
  have hs:=jo (P:=P) (w:=x.w.at n) (o := .deferred none) (show (x.w.at n).heap[x.μ id]? = _ from r3) (by simp)
  have Jt:(Instr.takeDeferred (x.μ id)).run P (x.w.at n) = .ok [] (bR (x.w.at n) (x.μ id) (.deferred none)):=by
   simp only[Instr.takeDeferred,Sem.run_bind,hg,Result.andThen_ok,hs,Sem.run_pure]
  obtain⟨es,hst⟩:=J3 (P:=P) (b:=b) (a:=a) (todo:=todo) (cs:=c::cs) (ds:=ds.map fun id=>{ target := .collected (x.μ id),args:=#[] }) (by rw[q1]; rfl) Jt
  refine⟨_,_,_,es,hst,?_⟩
  have Ht:=List.nodup_cons.1 q2
  exact F5 hP ee hb hf ds (x:={ x.dr n with w:=bR (x.w.at n) (x.μ id) (.deferred none) }) (a:={ a with defers:=ds.map fun id=>{ target := .collected (x.μ id),args:=#[] } }) hS t1 t2 ⟨he.1,fun j c hc=>t3 _ _ (RV.mono (ej x n) (he.2 j c hc))⟩
   ⟨rfl,Ht.2,fun i hi=>by
    obtain⟨u1,u2,u3⟩:=q3 i (by simp[hi])
    have hne:x.μ i≠x.μ id:=fun e=>Ht.1 (hR.inj i id (aS u2 (by simp)) (aS r2 (by simp)) e▸hi)
    exact⟨u1,u2,(fG _ _ _ hne).trans u3⟩⟩ hr hn
theorem QO (hP:Plain P) (ee:iO P ty) (hc:gL P aa call) (j5:∀ id ops draw,uW P aa ty aI call yf id ops draw) {L:Nat} {f:FuncId} {fn:Func} (hf:P.funcs[f]? = some fn) {args:List DV} {S S':ak} {v:DV} (h:qJ P ty aI call yf L f fn args S=some (v,S'))
  {vals:Array Value} (hR:Rel x) (hS:x.S=S) (ha:fR x args vals):er P aa x f vals fun y u=>y.S=S'∧Rel y∧bE x y∧RV y v u:=by
 subst hS
 unfold qJ at h
 split at h
 ·rename_i c hb
  refine⟨⟨fn,c,hf,hb⟩,fun fr cs hn => ?_⟩
  rw[enter_at vals hf hb,← Frame.atR_of_none (b:=base f) rfl]
  have he:fR x (args++List.replicate (fn.ntmps-args.length) aX) (vals++Array.replicate (fn.ntmps-vals.size) undef):=by
   refine kA ha ⟨by simp[ha.1],fun j c hc => ?_⟩
   rw[nH] at hc
   split at hc
   ·rename_i hj
    cases hc
    have:j<fn.ntmps-vals.size:=by rw[ha.1]; exact hj
    have e:(Array.replicate (fn.ntmps-vals.size) undef).getD j undef=undef:=by simp[aT,this]
    rw[e]
    exact .val rfl
   ·cases hc
  have key:∀ e aC S1,ct P ty aI call yf L f false c (args++List.replicate (fn.ntmps-args.length) aX) x.S=some (e,aC,S1)→(e = .normal∨e = .ret)→(qE ty aC S1 fn.results.toList).map (fun l=>(oneOf l,S1))=some (v,S') →
    gM P aa () (G ((base f).atR { tmps:=vals++Array.replicate (fn.ntmps-vals.size) undef,defers:=[] } [.code c]) (fr::cs)) x.w:=by
   intro e aC S1 h1 ZK h2
   simp only[ah,av] at h2
   obtain⟨l,h3,rfl,rfl⟩:=h2
   refine vH (n0:=x.S.length) (ds:=[]) (b:=base f) (cs:=fr::cs) (gW:=false) hP hc (by simp[base]) rfl (fun _=>rfl) c (vA j5 c) h1 hR he (xA _ _) (ai _) fun y a' gT q1 q2 q3 q4 q5 => ?_
   have jl:∀ todo,gM P aa () (G { (base f).at a' todo with mode := .returning } (fr::cs)) y.w:=fun todo =>
    F5 hP ee (x0:=x) (b:=base f) (env:=aC) (l:=l) (Sr:=S1) rfl hf gT q1 q2 q3 q4 q5 h3 fun z u r1 r2 r3 r4=>hn z u ⟨r1,r2,r3,r4⟩
   rcases ZK with rfl | rfl
   ·show gM P aa () (G ((base f).atR a' []) (fr::cs)) y.w
    rw[Frame.atR_of_none (b:=base f) rfl]
    exact eH hP (fun w=>⟨_,stepG_end⟩) (jl _)
   ·intro k'
    rw[Frame.atR_of_none (b:=base f) rfl]
    exact eH hP (fun w=>⟨_,stepG_ret'⟩) (jl _)
  split at h
  ·rename_i aC S1 h1
   exact key _ _ _ h1 (.inl rfl) h
  ·rename_i aC S1 h1
   exact key _ _ _ h1 (.inr rfl) h
  ·cases h
 ·cases h
theorem JV:∀ {ts:List Tmp} {ds:List DV} {vs:List Value} {env:List DV} {tmps:Array Value},fR x env tmps→vs.length=ds.length→(∀ (j:Nat) (c:DV),ds[j]? = some c→RV x c (vs.getD j undef)) →
  fR x (zJ env (ts.zip ds)) ((ts.zip vs).foldl (fun tmps (p:Tmp×Value)=>tmps.setIfInBounds p.1 p.2) tmps)
 | [],ds,vs,env,tmps,h,_,_=>by simpa [zJ] using h
 | t::ts,[],[],env,tmps,h,_,_=>by simpa [zJ] using h
 | t::ts,[],_::_,env,tmps,h,hl,_=>by simp at hl
 | t::ts,_::_,[],env,tmps,h,hl,_=>by simp at hl
 | t::ts,d::ds,v::vs,env,tmps,h,hl,hv=>by
  simp only[List.zip_cons_cons,zJ,List.foldl_cons]
  exact JV (JW h (by simpa using hv 0 d rfl)) (by simpa using hl) fun j c hc=>by simpa using hv (j+1) c (by simpa using hc)
theorem P0 {b:Frame} {a:Act} {k:List Item} {cs:List Frame} {w w':World} {l:Nat} (hk:b.kind ≠ .early) (hr:b.roundOf=some l) (h:(Instr.beginRound l).run P w = .ok () w') :
  ∃ es,stepG P true (G (b.atR a (.beginRound::k)) cs) w = .go (G (b.atR a k) cs) w' es:=by
 have sS:(b.kind==CallKind.early)=false:=by simpa using hk
 simp only[G,stepG,stepG.exec,Frame.atR,hr,stepG.apply,Option.elim_some,if_true,Sem.runT_eq,Sem.run_bind,h,Result.andThen_ok,Sem.run_pure,sS,GStep.after,Frame.finish]
 exact⟨_,rfl⟩
theorem Eu {b:Frame} {a:Act} {c:Frame} {cs:List Frame} {w w':World} {l:Nat} {v:Value} (hn:b.kind = .normal) (hr:b.roundOf=some l) (h:(Instr.endRound l none).run P w = .ok v w') :
  ∃ es,stepG P true (G (b.atR a []) (c::cs)) w = .go (G (c.finish v) cs) w' es:=by
 simp only[G,stepG,stepG.exec,Frame.atR,hr,Sem.runT_eq,h,GStep.after,doReturn,hn]
 exact⟨_,rfl⟩
theorem Et {b:Frame} {a:Act} {k:List Item} {c:Frame} {cs:List Frame} {w w':World} {l:Nat} {v:Value} (hn:b.kind = .normal) (hr:b.roundOf=some l) (h:(Instr.endRound l (some .ret)).run P w = .ok v w') :
  ∃ es,stepG P true (G (b.atR a (.code .ret::k)) (c::cs)) w = .go (G (c.finish v) cs) w' es:=by
 simp only[G,stepG,stepG.exec,Frame.atR,hr,Sem.runT_eq,h,GStep.after,doReturn,hn]
 exact⟨_,rfl⟩
theorem BW {b:Frame} {a:Act} {k:List Item} {c:Frame} {cs:List Frame} {w w':World} {l id:Nat} {v:Value} (hn:b.kind = .normal) (hr:b.roundOf=some l) (he:exitTo id k=none) (h:(Instr.endRound l (some (.exit id))).run P w = .ok v w') :
  ∃ es,stepG P true (G (b.atR a (.code (.exit id)::k)) (c::cs)) w = .go (G (c.finish v) cs) w' es:=by
 simp only[G,stepG,stepG.exec,Frame.atR,hr,he,Option.elim_none,Sem.runT_eq,h,GStep.after,doReturn,hn]
 exact⟨_,rfl⟩
theorem LK (hP:Plain P) (hc:gL P aa call) (j5:∀ id ops draw,uW P aa ty aI call yf id ops draw) {L:Nat}:xY P aa (HW P ty aI call yf L):=by
 intro id args S v S' h x vals hR hS ha
 subst hS
 unfold HW at h
 split at h
 ·rename_i r hr
  split at h
  ·rename_i hlen
   obtain⟨lo,l1,l2,l3,l4,l5,l6,l7,l8,-⟩:=qY hR hr
   refine⟨lo,l1,by rw[l6]; simpa [ha.1] using hlen,fun fr cs hn => ?_⟩
   have EU:∀ tmps,Frame.round (x.μ id) lo.fn tmps lo.assign lo.body .normal=({ (default:Frame) with fn:=r.fn,kind := .normal,roundOf:=some (x.μ id) }:Frame).atR { tmps:=tmps,defers:=[] } [.code r.assign,.beginRound,.code r.body]:=by
    intro tmps
    simp[Frame.round,Frame.atR,l4,l7,l8]
   rw[EU]
   generalize hB:({ (default:Frame) with fn:=r.fn,kind := .normal,roundOf:=some (x.μ id) }:Frame)=B
   have UU:B.kind = .normal:=by rw[← hB]
   have hBf:B.fn=r.fn:=by rw[← hB]
   have hBr:B.roundOf=some (x.μ id):=by rw[← hB]
   have ZV:B.kind ≠ .early:=by rw[UU]; simp
   have he:fR x (zJ r.env (r.params.zip args)) ((lo.params.zip vals).foldl (fun tmps (t,a)=>tmps.setIfInBounds t a) lo.tmps):=by
    have:=JV (ts:=r.params) (ds:=args) (vs:=vals.toList) l5 (by simpa using ha.1) fun j c hc=>by simpa [aT,aO] using ha.2 j c hc
    rw[l6,← Array.foldl_toList]
    simpa using this
   split at h
   ·rename_i aaL S1 h1
    split at h
    ·rename_i r1 wh
     split at h
     ·rename_i hst
      split at h
      ·rename_i e adJ S2 h2
       split at h
       ·rename_i r2 MP
        refine vH (n0:=0) (ds:=[]) (b:=B) (cs:=fr::cs) (gW:=true) hP hc ZV hBf (by simp) r.assign (vA j5 _) h1 hR he (xA _ _) (jN _) fun y a1 ds1 q1 q2 q3 q4 q5 => ?_
        subst q1
        obtain⟨Uz,m1,m2,m3,-⟩:=qY q2 wh
        have hμy:y.μ id=x.μ id:=(q3.dD id _ hr rfl).1
        refine gP hP fun n => ?_
        obtain⟨z1,z2⟩:=Ah (q2.dr n) (id:=id) wh (lo:=Uz) m1 .busy r1.jk
        have acM:({ Uz with state := .busy,pending:=r1.jk }:Loop)={ Uz with state := .busy }:=by rw[← m3]
        rw[acM] at z1 z2
        have ac0:(Instr.beginRound (x.μ id)).run P (y.w.at n) = .ok () (bR (y.w.at n) (x.μ id) (.loop { Uz with state := .busy })):=by
         have hg:=ir (P:=P) (w:=y.w.at n) (show (y.w.at n).heap[x.μ id]? = _ from(by rw[← hμy]; exact m1)) (by simp)
         have hs:=jo (P:=P) (w:=y.w.at n) (o := .loop { Uz with state := .busy }) (show (y.w.at n).heap[x.μ id]? = _ from(by rw[← hμy]; exact m1)) (by simp)
         have UH:Uz.state = .ready:=by rw[m2]; exact hst
         simp only[Instr.beginRound,Instr.getLoop,Sem.run_bind,hg,Result.andThen_ok,Sem.run_pure,hs,UH]
        obtain⟨es,hstep⟩:=P0 (P:=P) (a:=a1) (k:=[.code r.body]) (cs:=fr::cs) ZV hBr ac0
        refine⟨_,_,_,es,hstep,?_⟩
        generalize hz:(y.dr n).tw id (.loop { Uz with state := .busy }) (.loop { r1 with st := .busy,jk:=r1.jk })=z at z1 z2
        have hzS:z.S=y.S.set id (.loop { r1 with st := .busy }):=by rw[← hz]; rfl
        have hzw:z.w=bR (y.w.at n) (x.μ id) (.loop { Uz with state := .busy }):=by
         rw[← hz]
         show bR (y.w.at n) (y.μ id) _=_
         rw[hμy]
        rw[← hzw]
        have MYZ:=(ej y n).trans z2
        rw[← hzS] at h2
        refine vH (n0:=0) (ds:=ds1) (b:=B) (cs:=fr::cs) (k:=[]) (gW:=true) hP hc ZV hBf (by simp) r.body (vA j5 _) h2 z1 (q4.mono MYZ) (q5.mono MYZ) (jN _) fun u a2 ds2 p1 p2 p3 p4 p5 => ?_
        subst p1
        obtain⟨Rk,n1,-⟩:=qY p2 MP
        have hμu:u.μ id=x.μ id:=by
         have:=(p3.dD id _ (show z.S[id]? = some (.loop { r1 with st := .busy }) by rw[hzS,fK wh,if_pos rfl]) rfl).1
         rw[this,← hz]
         exact hμy
        have MXU:=(q3.trans MYZ).trans p3
        have fin:∀ st pd,∀ n2,(Instr.endRound (x.μ id) pd).run P (u.w.at n2) = .ok (.bool pd.isNone) (bR (u.w.at n2) (x.μ id) (.loop { Rk with state:=if pd.isNone then .ready else .done,pending:=pd }))→st=(if pd.isNone then LoopState.ready else .done)→S'=u.S.set id (.loop { r2 with st:=st,jk:=pd })→v = .val (.bool pd.isNone) →
          gM P aa () (G (fr.finish (.bool pd.isNone)) cs) (bR (u.w.at n2) (x.μ id) (.loop { Rk with state:=if pd.isNone then .ready else .done,pending:=pd })):=by
         intro st pd n2 _ NJ yZ hv
         obtain⟨y1,y2⟩:=Ah (p2.dr n2) (id:=id) MP (lo:=Rk) n1 st pd
         have:=hn ((u.dr n2).tw id (.loop { Rk with state:=st,pending:=pd }) (.loop { r2 with st:=st,jk:=pd })) (.bool pd.isNone) ⟨yZ.symm,y1,(MXU.trans (ej u n2)).trans y2,by rw[hv]; exact .val rfl⟩
         have e:((u.dr n2).tw id (.loop { Rk with state:=st,pending:=pd }) (.loop { r2 with st:=st,jk:=pd })).w=bR (u.w.at n2) (x.μ id) (.loop { Rk with state:=if pd.isNone then .ready else .done,pending:=pd }):=by
          show bR (u.w.at n2) (u.μ id) _=_
          rw[hμu,NJ]
         rw[e] at this
         exact this
        have qF:∀ pd n2,(Instr.endRound (x.μ id) pd).run P (u.w.at n2) = .ok (.bool pd.isNone) (bR (u.w.at n2) (x.μ id) (.loop { Rk with state:=if pd.isNone then .ready else .done,pending:=pd })):=by
         intro pd n2
         have hg:=ir (P:=P) (w:=u.w.at n2) (show (u.w.at n2).heap[x.μ id]? = _ from(by rw[← hμu]; exact n1)) (by simp)
         have hs:=fun o=>jo (P:=P) (w:=u.w.at n2) (o:=o) (show (u.w.at n2).heap[x.μ id]? = _ from(by rw[← hμu]; exact n1)) (by simp)
         simp only[Instr.endRound,Instr.getLoop,Sem.run_bind,hg,Result.andThen_ok,Sem.run_pure,hs]
        cases e with
        | normal =>
         simp only[az,av] at h
         refine gP hP fun n2 => ?_
         obtain⟨UX,yK⟩:=Eu (P:=P) (a:=a2) (c:=fr) (cs:=cs) UU hBr (qF none n2)
         exact⟨_,_,_,UX,yK,fin .ready none n2 (qF none n2) rfl h.2.symm h.1.symm⟩
        | ret =>
         simp only[az,av] at h
         intro k'
         refine gP hP fun n2 => ?_
         obtain⟨UX,yK⟩:=Et (P:=P) (a:=a2) (k:=k') (c:=fr) (cs:=cs) UU hBr (qF (some .ret) n2)
         exact⟨_,_,_,UX,yK,fin .done (some .ret) n2 (qF (some .ret) n2) rfl h.2.symm h.1.symm⟩
        | exit i =>
         simp only[az,av] at h
         intro k' sS
         refine gP hP fun n2 => ?_
         obtain⟨UX,yK⟩:=BW (P:=P) (a:=a2) (k:=k') (c:=fr) (cs:=cs) UU hBr sS (qF (some (.exit i)) n2)
         exact⟨_,_,_,UX,yK,fin .done (some (.exit i)) n2 (qF (some (.exit i)) n2) rfl h.2.symm h.1.symm⟩
       ·cases h
      ·cases h
     ·cases h
    ·cases h
   ·cases h
  ·cases h
 ·cases h
end Go.Di
end
