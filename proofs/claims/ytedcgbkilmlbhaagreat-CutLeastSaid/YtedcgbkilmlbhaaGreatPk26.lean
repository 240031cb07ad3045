import Derived.Test.YtedcgbkilmlbhaaGreatPk25
import Derived.RangeFuncIn
section
namespace Go.Di
open Go Go.Conc Go.Co
variable {P:Program} {aa:Machine→Trace→Prop} {ty:gF} {x:Cx} {aI:bP} {call:bM} {yf:eW}
def vc (P:Program) (aa:Machine→Trace→Prop) (ty:gF) (aI:bP) (call:bM) (yf:eW) (id:Nat) (ops:Array Oper) (draw:Bool):Prop :=
 ∀ {env aC:List DV} {S':av} {x:Cx} {a:Act} {b:Frame} {k:List Item} {cs:List Frame},nX P ty aI call yf ops draw env x.S=some (aC,S')→b.kind ≠ .early→Rel x→gD x env a.tmps →
  (∀ y a',y.S=S'→Rel y→cr x y→gD y aC a'.tmps→a'.defers=a.defers→ia P aa () (G (b.atR a' k) cs) y.w)→ia P aa () (G (b.atR a (.code (.region id ops draw)::k)) cs) x.w
def Ai (P:Program) (aa:Machine→Trace→Prop) (ty:gF) (aI:bP) (call:bM) (yf:eW):Code→Prop
 | .region id ops draw=>vc P aa ty aI call yf id ops draw
 | .seq a b | .cond _ a b=>Ai P aa ty aI call yf a∧Ai P aa ty aI call yf b
 | .block _ c | .loop c | .scope c=>Ai P aa ty aI call yf c
 | _=>True
theorem Md (hP:Plain P) (eC:jl P ty) (hc:jL P aa call) (hi:xZ P aa aI) (HD:xY P aa yf) (id:Nat) (ops:Array Oper):vc P aa ty aI call yf id ops false:=by
 intro env aC S' x a b k cs h hk hR he hn
 simp only[nX,aD,if_false] at h
 refine fe hP (fun w=>⟨_,Mf⟩) ?_
 have:=Eh hP eC hc hi HD hk ops.toList [] rfl h hR he hn
 rw[List.range_eq_range']
 simpa using this
def Fp (P:Program) (aa:Machine→Trace→Prop) (b:Frame) (k:List Item) (cs:List Frame):DX→Act→World→Prop
 | .normal,a,w=>ia P aa () (G (b.atR a k) cs) w
 | .exit id,a,w=>∀ k',exitTo id k'=exitTo id k→ia P aa () (G (b.atR a (.code (.exit id)::k')) cs) w
 | .ret,a,w=>∀ k',ia P aa () (G (b.atR a (.code .ret::k')) cs) w
theorem Fp.push {b:Frame} {k:List Item} {cs:List Frame} {e:DX} {a:Act} {w:World} {i:Item} (hi:∀ id,exitTo id (i::k)=exitTo id k) (he:e ≠ .normal) (h:Fp P aa b k cs e a w):Fp P aa b (i::k) cs e a w:=by
 cases e with
 | normal=>exact absurd rfl he
 | exit id=>exact fun k' oI=>h k' (oI.trans (hi id))
 | ret=>exact h
def qS (n0:Nat) (x:Cx) (ds:List Nat) (l:List Deferred):Prop:=l=ds.map (fun id=>{ target := .collected (x.μ id),args:=#[] })∧ds.Nodup∧∀ id∈ds,n0≤id∧x.S[id]? = some .defer∧x.w.heap[x.μ id]? = some (.deferred (some []))
theorem qS.mono {n0:Nat} {y:Cx} (M:cr x y) {ds:List Nat} {l:List Deferred} (h:qS n0 x ds l):qS n0 y ds l:=by
 obtain⟨h1,h2,h3⟩:=h
 have hμ:∀ id∈ds,y.μ id=x.μ id:=fun id hid=>(M.eB id _ (h3 id hid).2.1 rfl).1
 refine⟨?_,h2,fun id hid => ?_⟩
 ·rw[h1]
  exact List.map_congr_left fun id hid=>by rw[hμ id hid]
 ·obtain⟨q1,q2,q3⟩:=h3 id hid
  obtain⟨r1,⟨b',r2,r3⟩,r4⟩:=M.eB id _ q2 rfl
  have:b' = .defer:=by cases b'<;>first | rfl | exact r3.elim
  subst this
  exact⟨q1,r2,by rw[hμ id hid,r4 rfl]; exact q3⟩
theorem xz (n0:Nat) (x:Cx):qS n0 x [] []:=⟨rfl,List.nodup_nil,by simp⟩
theorem EG {b : Frame} {a : Act} {k : List Item} {cs : List Frame} {w : World} {g : Operand} {ps : Array Tmp} {assign body : Code} {f : FuncId} {fs vs : Array Value} {fn : Func} {c : Code} (hk : b.kind ≠ .early) (hr : b.roundOf = none) (hg : a.eval g = .func (.func f) fs vs) (hf : P.funcs[f]? = some fn) (hb : fn.body = some c) (uW : (fn.name == "runtime.NumGoroutine") = false) :
  ∃ es,stepG P true (G (b.atR a (.code (.rangeFunc g ps assign body)::k)) cs) w =
   .go (G (Frame.enter P f (fs++#[.func (.yield (w.heap.size+1)) #[] #[]]++vs) .normal) (b.atR { a with defers:={ target := .collected w.heap.size,args:=#[] }::a.defers } (.inRangeFunc (w.heap.size+1)::k)::cs))
    ((w.alloc (.deferred (some []))).alloc (.loop { state := .ready,pending:=none,fn:=b.fn,tmps:=a.tmps,params:=ps,assign,body,defers:=w.heap.size })) es:=by
 have oI:(b.kind==CallKind.early)=false:=by simpa using hk
 have s6:=Frame.eval_atR b { a with defers:={ target := .collected w.heap.size,args:=#[] }::a.defers } (.inRangeFunc (w.heap.size+1)::k)
 simp only[Frame.atR,hr] at s6
 have adk:({ tmps:=a.tmps,defers:={ target := .collected w.heap.size,args:=#[] }::a.defers }:Act).eval g = .func (.func f) fs vs:=by
  rw[← hg]; cases g<;>rfl
 have NJ:∀ (w2:World),(do let d ← resolve ({ tmps:=a.tmps,defers:={ target := .collected w.heap.size,args:=#[] }::a.defers }:Act).eval { callee := .value g,args:=#[.const (.func (.yield (w.heap.size+1)) #[] #[])],argTypes:=#[] } 0; invoke d.target d.args:Sem Next).run P w2 = .ok (.enter f (fs++#[.func (.yield (w.heap.size+1)) #[] #[]]++vs)) w2:=by
  intro w2
  have ade:∀ (a:Act) (v:Value),a.eval (.const v)=v:=fun _ _=>rfl
  have hn2 : ¬ fn.name = "runtime.NumGoroutine" := by simpa using uW
  simp[resolve,adk,ade,Deferred.ofValue,invoke,callFunc,hf,hn2,hb]
 have Is:(Instr.enterLoop b.fn a.tmps ps assign body none).run P w = .ok (w.heap.size+1,[{ target := .collected w.heap.size,args:=#[] }])
   ((w.alloc (.deferred (some []))).alloc (.loop { state := .ready,pending:=none,fn:=b.fn,tmps:=a.tmps,params:=ps,assign,body,defers:=w.heap.size })):=by
  simp[Instr.enterLoop]
 simp only[G,stepG,stepG.exec,Frame.atR,hr,Sem.runT_eq,Is,stepG.apply,s6,if_true,NJ,oI,List.singleton_append,GStep.after,aD,if_false]
 exact⟨_,rfl⟩
end Go.Di
end
section
namespace Go.Di
open Go Go.Conc Go.Co
variable {P:Program} {aa:Machine→Trace→Prop} {ty:gF} {x:Cx} {aI:bP} {call:bM} {yf:eW}
theorem GX {b:Frame} {a:Act} {k:List Item} {cs:List Frame} {w w':World} {l:Nat} {jump:Option Code} (h:(Instr.endLoop l).run P w = .ok jump w') :
  ∃ es,stepG P true (G (b.atR a (.endRangeFunc l::k)) cs) w = .go (G (b.atR a ((jump.map Item.code).toList++k)) cs) w' es:=by
 simp only[G,stepG,stepG.exec,Frame.atR,Sem.runT_eq,h,GStep.after]
 exact⟨_,rfl⟩
theorem rC (hR:Rel x) {id:Nat} {r:J1} (h:x.S[id]? = some (.loop r)):∃ lo,x.w.heap[x.μ id]? = some (.loop lo)∧lo.state=r.st∧lo.pending=r.jI∧lo.fn=r.fn∧gD x r.env lo.tmps∧lo.params=r.params.toArray∧lo.assign=r.assign∧lo.body=r.body∧lo.defers=x.μ r.dfr∧x.S[r.dfr]? = some .defer:=by
 obtain⟨o,h1,h2⟩:=hR.eB id _ h rfl
 cases o<;>simp only[qQ] at h2
 exact⟨_,h1,h2⟩
theorem Al (hR:Rel x) {id:Nat} {r:J1} (h:x.S[id]? = some (.loop r)) {lo:Loop} (Nf:x.w.heap[x.μ id]? = some (.loop lo)) (st:LoopState) (pd:Option Code) :
  Rel (x.tL id (.loop { lo with state:=st,pending:=pd }) (.loop { r with st:=st,jI:=pd }))∧cr x (x.tL id (.loop { lo with state:=st,pending:=pd }) (.loop { r with st:=st,jI:=pd })):=by
 obtain⟨lo',h1,h2,h3,h4,h5,h6,h7,h8,h9,wB⟩:=rC hR h
 rw[Nf] at h1
 cases h1
 have M:=xl (x:=x) (o := .loop { lo with state:=st,pending:=pd }) (b := .loop { r with st:=st,jI:=pd }) hR h rfl (by simp)
 refine⟨F4 hR h rfl (by simp) ⟨rfl,rfl,h4,h5.mono M,h6,h7,h8,h9,?_⟩,M⟩
 show (x.S.set _ _)[_]? = _
 rw[gl h,if_neg (by rintro e; rw[e,h] at wB; cases wB)]
 exact wB
theorem Ky (S:av):B8 S S.length := .inl rfl
theorem ya (S:av) (b:DB):ez S S.length b=S++[b]:=by unfold ez; rw[if_neg (by omega)]
set_option maxHeartbeats 1000000 in
theorem vM (hP:Plain P) (hc:jL P aa call) {L:Nat} {fn:FuncId} {iA:Bool} {n0:Nat} {b:Frame} {cs:List Frame} (hk:b.kind ≠ .early) (NF:b.fn=fn) (Ve:iA=false→b.roundOf=none) :
  ∀ (c:Code),Ai P aa ty aI call yf c→∀ {k:List Item} {env aC:List DV} {S':av} {e:DX} {a:Act} {x:Cx} {ds:List Nat},cG P ty aI call yf L fn iA c env x.S=some (e,aC,S')→Rel x→gD x env a.tmps→qS n0 x ds a.defers→n0≤x.S.length →
   (∀ y a' gW,y.S=S'→Rel y→cr x y→gD y aC a'.tmps→qS n0 y gW a'.defers→Fp P aa b k cs e a' y.w)→ia P aa () (G (b.atR a (.code c::k)) cs) x.w:=by
 intro c
 induction c with
 | skip =>
  intro _ k env aC S' e a x ds h hR he hd uG hn
  simp only[cG,az,ax] at h
  obtain⟨rfl,rfl,rfl⟩:=h
  exact fe hP (fun w=>⟨_,Uc⟩) (hn x a ds rfl hR (cr.refl x) he hd)
 | label l =>
  intro _ k env aC S' e a x ds h hR he hd uG hn
  simp only[cG,az,ax] at h
  obtain⟨rfl,rfl,rfl⟩:=h
  exact fe hP (fun w=>⟨_,Qy⟩) (hn x a ds rfl hR (cr.refl x) he hd)
 | region id ops draw =>
  intro kH k env aC S' e a x ds h hR he hd uG hn
  simp only[cG,ah,ax] at h
  obtain⟨⟨oA,S1⟩,h1,rfl,rfl,rfl⟩:=h
  exact kH h1 hk hR he fun y a' q1 q2 q3 q4 q5=>hn y a' ds q1 q2 q3 q4 (by rw[q5]; exact hd.mono q3)
 | seq c1 c2 Lf M7 =>
  intro kH k env aC S' e a x ds h hR he hd uG hn
  simp only[cG] at h
  refine fe hP (fun w=>⟨_,YB⟩) ?_
  split at h
  ·rename_i oA S1 h1
   refine Lf kH.1 h1 hR he hd uG fun y a' gW q1 q2 q3 q4 q5 => ?_
   subst q1
   exact M7 kH.2 h q2 q4 q5 (aM uG q3.len) fun z a'' XJ r1 r2 r3 r4 r5=>hn z a'' XJ r1 r2 (q3.trans r3) r4 r5
  ·rename_i r hne
   refine Lf kH.1 h hR he hd uG fun y a' gW q1 q2 q3 q4 q5=>Fp.push (fun _=>rfl) ?_ (hn y a' gW q1 q2 q3 q4 q5)
   rintro rfl
   exact hne _ _ h
 | cond o c1 c2 Lf M7 =>
  intro kH k env aC S' e a x ds h hR he hd uG hn
  simp only[cG] at h
  split at h
  ·rename_i ho
   have hv:=tT (tY he _ _ ho)
   refine fe hP (fun w=>⟨_,Kn hv⟩) ?_
   rw[if_pos rfl]
   exact Lf kH.1 h hR he hd uG hn
  ·rename_i ho
   have hv:=tT (tY he _ _ ho)
   refine fe hP (fun w=>⟨_,Kn hv⟩) ?_
   rw[if_neg (by simp)]
   exact M7 kH.2 h hR he hd uG hn
  ·cases h
 | block id c ih =>
  intro kH k env aC S' e a x ds h hR he hd uG hn
  simp only[cG] at h
  refine fe hP (fun w=>⟨_,Qz⟩) ?_
  split at h
  ·rename_i iT oA S1 h1
   cases h
   refine ih kH h1 hR he hd uG fun y a' gW q1 q2 q3 q4 q5 => ?_
   have hf:=hn y a' gW q1 q2 q3 q4 q5
   intro k' oI
   simp only[exitTo] at oI
   by_cases hid:iT=id
   ·subst hid
    simp only[beq_self_eq_true,if_true] at oI hf
    exact fe hP (fun w=>⟨_,Ue oI⟩) hf
   ·rw[if_neg hid] at hf
    have:(id==iT)=false:=by simpa using fun e=>hid e.symm
    rw[this] at oI
    exact hf k' oI
  ·rename_i r hne
   refine ih kH h hR he hd uG fun y a' gW q1 q2 q3 q4 q5 => ?_
   have hf:=hn y a' gW q1 q2 q3 q4 q5
   cases e with
   | normal=>exact fe hP (fun w=>⟨_,IW⟩) hf
   | exit iT=>exact absurd h (hne _ _ _)
   | ret=>exact hf
 | loop c ih =>
  intro kH k env aC S' e a x ds h hR he hd uG hn
  simp only[cG] at h
  refine fe hP (fun w=>⟨_,Ud⟩) ?_
  have key:∀ n {env:List DV} {a:Act} {x:Cx} {ds:List Nat},lZ (cG P ty aI call yf L fn iA c) n env x.S=some (e,aC,S')→Rel x→gD x env a.tmps→qS n0 x ds a.defers→n0≤x.S.length →
    (∀ y a' gW,y.S=S'→Rel y→cr x y→gD y aC a'.tmps→qS n0 y gW a'.defers→Fp P aa b k cs e a' y.w)→ia P aa () (G (b.atR a (.code c :: .inLoop c::k)) cs) x.w:=by
   intro n
   induction n with
   | zero=>intro env a x ds h; simp[lZ] at h
   | succ n ihn =>
    intro env a x ds h hR he hd uG hn
    unfold lZ at h
    split at h
    ·rename_i oA S1 h1
     refine ih kH h1 hR he hd uG fun y a' gW q1 q2 q3 q4 q5 => ?_
     subst q1
     exact fe hP (fun w=>⟨_,Mg⟩) (ihn h q2 q4 q5 (aM uG q3.len) fun z a'' XJ r1 r2 r3 r4 r5=>hn z a'' XJ r1 r2 (q3.trans r3) r4 r5)
    ·rename_i r hne
     refine ih kH h hR he hd uG fun y a' gW q1 q2 q3 q4 q5=>Fp.push (fun _=>rfl) ?_ (hn y a' gW q1 q2 q3 q4 q5)
     rintro rfl
     exact hne _ _ h
  exact key L h hR he hd uG hn
 | scope c ih =>
  intro kH k env aC S' e a x ds h hR he hd uG hn
  simp only[cG] at h
  refine fe hP (fun w=>⟨_,Qw⟩) ?_
  refine ih kH h hR he hd uG fun y a' gW q1 q2 q3 q4 q5 => ?_
  have hf:=hn y a' gW q1 q2 q3 q4 q5
  cases e with
  | normal=>exact fe hP (fun w=>⟨_,IV⟩) hf
  | exit iT=>exact Fp.push (fun _=>rfl) (by simp) hf
  | ret=>exact hf
 | exit id =>
  intro _ k env aC S' e a x ds h hR he hd uG hn
  simp only[cG,az,ax] at h
  obtain⟨rfl,rfl,rfl⟩:=h
  exact hn x a ds rfl hR (cr.refl x) he hd k rfl
 | ret =>
  intro _ k env aC S' e a x ds h hR he hd uG hn
  simp only[cG,az,ax] at h
  obtain⟨rfl,rfl,rfl⟩:=h
  exact hn x a ds rfl hR (cr.refl x) he hd k
 | goto l=>intro _ k env aC S' e a x ds h; simp[cG] at h
 | refuse why=>intro _ k env aC S' e a x ds h; simp[cG] at h
 | rangeFunc f ps Ll body _ _ =>
  intro _ k env aC S' e a x ds h hR he hd uG hn
  simp only[cG] at h
  split at h
  ·cases h
  ·rename_i acU
   have hro:=Ve (by simpa using acU)
   split at h
   ·rename_i g fs vs hf
    have Vj:=tY he _ _ hf
    generalize hv:a.eval f=vf at Vj
    cases Vj with
    | @fn _ _ _ vfs vcs k1 k2 k3 k4 =>
     split at h
     ·rename_i u S1 h1
      refine ij hP fun n => ?_
      have hRn:=hR.dr n
      have Mn:=eE x n
      have hp1:nk (x.w.at n) ((x.w.at n).alloc (.deferred (some []))) (.deferred (some [])):=fZ _ _
      have Sq:=kO (x:=x.dr n) (k:=0) (F:=fun _=>False) (b := .defer) hRn (Ky x.S) hp1 (by simp) (.inr (.inr (.inl ⟨rfl,by simp,trivial⟩)))
      have M1:=iR (x:=x.dr n) (k:=0) (F:=fun _=>False) (b := .defer) hRn (Ky x.S) hp1
      generalize E8:(x.dr n).fresh ((x.w.at n).alloc (.deferred (some []))) x.S.length 0 (fun _=>False) .defer=x1 at Sq M1
      have Vn:x1.S=x.S++[.defer]:=by rw[← E8]; exact ya x.S _
      have Jr:x1.w=(x.w.at n).alloc (.deferred (some [])):=by rw[← E8]; rfl
      have hμ1:x1.μ x.S.length=x.w.heap.size:=by rw[← E8]; exact if_pos rfl
      have JK:x1.S.length=x.S.length+1:=by rw[Vn]; simp
      have ZD:nk x1.w (((x.w.at n).alloc (.deferred (some []))).alloc (.loop { state := .ready,pending:=none,fn:=b.fn,tmps:=a.tmps,params:=ps,assign:=Ll,body,defers:=x.w.heap.size })) (.loop { state := .ready,pending:=none,fn:=b.fn,tmps:=a.tmps,params:=ps,assign:=Ll,body,defers:=x.w.heap.size }):=by
       rw[Jr]; exact fZ _ _
      have V4:B8 x1.S (x.S.length+1) := .inl JK.symm
      have M2:=iR (x:=x1) (k:=0) (F:=fun _=>False) (b := .loop ⟨.ready,none,fn,env,ps.toList,Ll,body,x.S.length⟩) Sq V4 ZD
      generalize Bv:x1.fresh (((x.w.at n).alloc (.deferred (some []))).alloc (.loop { state := .ready,pending:=none,fn:=b.fn,tmps:=a.tmps,params:=ps,assign:=Ll,body,defers:=x.w.heap.size })) (x.S.length+1) 0 (fun _=>False) (.loop ⟨.ready,none,fn,env,ps.toList,Ll,body,x.S.length⟩)=x2 at M2
      have EY:x2.S=x.S++[.defer,.loop ⟨.ready,none,fn,env,ps.toList,Ll,body,x.S.length⟩]:=by
       rw[← Bv]
       show ez x1.S (x.S.length+1) _=_
       rw[← JK,ya,Vn]
       simp
      have hw2:x2.w=((x.w.at n).alloc (.deferred (some []))).alloc (.loop { state := .ready,pending:=none,fn:=b.fn,tmps:=a.tmps,params:=ps,assign:=Ll,body,defers:=x.w.heap.size }):=by rw[← Bv]; rfl
      have hμ2:x2.μ (x.S.length+1)=x.w.heap.size+1:=by
       rw[← Bv]
       show (if _ then x1.w.heap.size else _)=_
       rw[if_pos rfl,Jr]
       simp[World.at]
      have hμ2':x2.μ x.S.length=x.w.heap.size:=by
       rw[← Bv]
       show (if _ then _ else x1.μ x.S.length)=_
       rw[if_neg (by omega),hμ1]
      have MM:=(Mn.trans M1).trans M2
      have hR2:Rel x2:=by
       have:=kO (x:=x1) (k:=0) (F:=fun _=>False) (b := .loop ⟨.ready,none,fn,env,ps.toList,Ll,body,x.S.length⟩) Sq V4 ZD (by simp) (.inr (.inr (.inl ⟨rfl,by simp,?_⟩)))
       ·rw[Bv] at this; exact this
       ·rw[Bv]
        refine⟨rfl,rfl,NF,he.mono MM,by simp,rfl,rfl,hμ2'.symm,?_⟩
        rw[EY]
        simp
      have OI:qS n0 x2 (x.S.length::ds) ({ target := .collected x.w.heap.size,args:=#[] }::a.defers):=by
       obtain⟨q1,q2,q3⟩:=hd.mono MM
       refine⟨by rw[bT,hμ2',q1],List.nodup_cons.2 ⟨fun hm => ?_,q2⟩,fun id hid => ?_⟩
       ·have:=(aJ.1 (hd.2.2 _ hm).2.1).1
        omega
       ·rcases bH.1 hid with rfl | hid
        ·refine⟨uG,by rw[EY]; simp,?_⟩
         rw[hμ2',hw2]
         have:((x.w.at n).alloc (.deferred (some []))).heap.size=x.w.heap.size+1:=by simp[World.at]
         rw[(fZ _ _).lt (by omega)]
         exact(fZ (x.w.at n) _).new
        ·exact q3 id hid
      have mc:gD x2 (fs++[.BA (x.S.length+1)]++vs) (vfs++#[.func (.yield (x.w.heap.size+1)) #[] #[]]++vcs):=by
       have e1:gD x2 fs vfs:=gD.mono MM ⟨k1,k3⟩
       have e2:gD x2 vs vcs:=gD.mono MM ⟨k2,k4⟩
       refine kT (kT e1 ⟨rfl,fun j c hj => ?_⟩) e2
       cases j with
       | zero =>
        simp only[List.getElem?_cons_zero,az] at hj
        subst hj
        show RV x2 _ (.func (.yield (x.w.heap.size+1)) #[] #[])
        rw[← hμ2]
        exact .BA (r:=⟨.ready,none,fn,env,ps.toList,Ll,body,x.S.length⟩) (by rw[EY]; simp)
       | succ j=>simp at hj
      obtain⟨⟨uH,cd,NG,Vk⟩,ac9⟩:=hc _ _ _ _ _ h1 x2 _ hR2 EY mc
      obtain⟨es,hstep⟩:=EG (P:=P) (b:=b) (a:=a) (k:=k) (cs:=cs) (w:=x.w.at n) (g:=f) (ps:=ps) (assign:=Ll) (body:=body) hk hro hv NG Vk (hP.count g uH NG)
      refine⟨_,_,_,es,hstep,?_⟩
      have V9:=ac9 (b.atR { a with defers:={ target := .collected x.w.heap.size,args:=#[] }::a.defers } (.inRangeFunc (x.w.heap.size+1)::k)) cs fun y u hp => ?_
      ·rw[hw2] at V9
       exact V9
      obtain⟨hyS,hyR,Vb,-⟩:=hp
      subst hyS
      rw[finish_atR_inRangeFunc]
      have MY:=MM.trans Vb
      split at h
      ·rename_i r hr
       split at h
       ·cases h
       ·rename_i abF
        have hμy:y.μ (x.S.length+1)=x.w.heap.size+1:=by
         rw[(Vb.eB _ _ (show x2.S[x.S.length+1]? = some (.loop ⟨.ready,none,fn,env,ps.toList,Ll,body,x.S.length⟩) by rw[EY]; simp) rfl).1,hμ2]
        obtain⟨lo,l1,l2,l3,-⟩:=rC hyR hr
        rw[hμy] at l1
        obtain⟨z1,z2⟩:=Al hyR hr (by rw[hμy]; exact l1) .exhausted r.jI
        have hwz:(y.tL (x.S.length+1) (.loop { lo with state := .exhausted,pending:=r.jI }) (.loop { r with st := .exhausted,jI:=r.jI })).w=bZ y.w (x.w.heap.size+1) (.loop { lo with state := .exhausted,pending:=r.jI }):=by
         show bZ y.w (y.μ _) _=_
         rw[hμy]
        have hSz:(y.tL (x.S.length+1) (.loop { lo with state := .exhausted,pending:=r.jI }) (.loop { r with st := .exhausted,jI:=r.jI })).S=y.S.set (x.S.length+1) (.loop { r with st := .exhausted }):=rfl
        generalize y.tL (x.S.length+1) (.loop { lo with state := .exhausted,pending:=r.jI }) (.loop { r with st := .exhausted,jI:=r.jI })=z at z1 z2 hwz hSz
        have MZ:=MY.trans z2
        refine ij hP fun n2 => ?_
        have abB:(Instr.endLoop (x.w.heap.size+1)).run P (y.w.at n2) = .ok r.jI (z.w.at n2):=by
         have hg:=iN (P:=P) (w:=y.w.at n2) (show (y.w.at n2).heap[x.w.heap.size+1]? = _ from l1) (by simp)
         have hs:=jM (P:=P) (w:=y.w.at n2) (o := .loop { lo with state := .exhausted,pending:=r.jI }) (show (y.w.at n2).heap[x.w.heap.size+1]? = _ from l1) (by simp)
         have hb:(lo.state==LoopState.busy)=false:=by rw[l2]; simpa using abF
         simp only[Instr.endLoop,Instr.getLoop,Sem.run_bind,hg,Result.andThen_ok,Sem.run_pure,hb,aD,if_false,hs,l3]
         rw[hwz]
         rfl
        obtain⟨Vs,yD⟩:=GX (P:=P) (b:=b) (a:={ a with defers:={ target := .collected x.w.heap.size,args:=#[] }::a.defers }) (k:=k) (cs:=cs) abB
        refine⟨_,_,_,Vs,yD,Fu ?_ n2⟩
        have tP:=hn z { a with defers:={ target := .collected x.w.heap.size,args:=#[] }::a.defers } (x.S.length::ds)
        split at h
        ·rename_i hpd
         simp only[az,ax] at h
         obtain⟨rfl,rfl,rfl⟩:=h
         rw[hpd]
         exact tP hSz z1 MZ (he.mono MZ) ((OI.mono Vb).mono z2)
        ·rename_i hpd
         simp only[az,ax] at h
         obtain⟨rfl,rfl,rfl⟩:=h
         rw[hpd]
         exact tP hSz z1 MZ (he.mono MZ) ((OI.mono Vb).mono z2) k
        ·rename_i e' hpd
         simp only[az,ax] at h
         obtain⟨rfl,rfl,rfl⟩:=h
         rw[hpd]
         exact tP hSz z1 MZ (he.mono MZ) ((OI.mono Vb).mono z2) k rfl
        ·cases h
      ·cases h
     ·cases h
   ·cases h
end Go.Di
end
section
namespace Go.Di
open Go Go.Conc Go.Co
variable {P:Program} {aa:Machine→Trace→Prop} {ty:gF} {x:Cx} {aI:bP} {call:bM} {yf:eW}
theorem vE (h:∀ id ops draw,vc P aa ty aI call yf id ops draw):∀ c,Ai P aa ty aI call yf c:=by
 intro c
 induction c with
 | region id ops draw=>exact h id ops draw
 | seq a b iha ihb=>exact⟨iha,ihb⟩
 | cond o a b iha ihb=>exact⟨iha,ihb⟩
 | block id c ih=>exact ih
 | loop c ih=>exact ih
 | scope c ih=>exact ih
 | _=>trivial
def Lp (tmps:Array Value):ResultVar→Sem Value
 | .tmp t=>pure (tmps.getD t undef)
 | .cell a t=>do loadVar t (← asAddr (tmps.getD a undef))
theorem IM (fn:Func) (tmps:Array Value):results fn tmps=(do let vs ← fn.results.mapM (Lp tmps); pure (if h:vs.size=1 then vs[0] else .tuple vs)):=by
 have:(fun | .tmp t=>pure (tmps.getD t undef) | .cell a t=>do loadVar t (← asAddr (tmps.getD a undef)):ResultVar→Sem Value)=Lp tmps:=by
  funext r; cases r<;>rfl
 rw[← this]
 rfl
theorem Ei (eC:jl P ty) {env:List DV} {tmps:Array Value} (hR:Rel x) (he:gD x env tmps):∀ {rs:List ResultVar} {l:List DV},qJ ty env x.S rs=some l →
  ∃ vs:List Value,(rs.mapM (Lp tmps)).run P x.w = .ok vs x.w∧gD x l vs.toArray
 | [],l,h=>by
  simp only[qJ,az] at h
  subst h
  exact⟨[],rfl,rfl,by simp⟩
 | .tmp t::rs,l,h=>by
  simp only[qJ,ah] at h
  obtain⟨l',h1,rfl⟩:=h
  obtain⟨vs,h2,h3,h4⟩:=Ei eC hR he h1
  have hv:RV x (env.getD t bz) (tmps.getD t undef):=tY (a:=⟨tmps,[]⟩) he (.tmp t) _ rfl
  refine⟨tmps.getD t undef::vs,by simp only[List.mapM_cons,Lp,Sem.run_bind,Sem.run_pure,Result.andThen_ok,h2],by simpa using h3,fun j c hc => ?_⟩
  cases j with
  | zero=>simp only[List.getElem?_cons_zero,az] at hc; subst hc; exact hv
  | succ j=>simpa [aV] using h4 j c (by simpa using hc)
 | .cell a t::rs,l,h=>by
  unfold qJ at h
  split at h
  ·rename_i d l' h0 h1
   cases h
   obtain⟨vs,h2,h3,h4⟩:=Ei eC hR he h1
   have hv:RV x (env.getD a bz) (tmps.getD a undef):=tY (a:=⟨tmps,[]⟩) he (.tmp a) _ rfl
   obtain⟨v,h5,h6⟩:=Gn eC hR hv h0
   have hrun:(Lp tmps (.cell a t)).run P x.w = .ok v x.w:=by
    show (do loadVar t (← asAddr (tmps.getD a undef)):Sem Value).run P x.w=_
    generalize tmps.getD a undef=u at hv h5
    unfold jN at h0
    generalize env.getD a bz=da at hv h0
    split at h0
    ·cases hv; simpa [Instr.loadAt,Instr.sureAddr,asAddr] using h5
    ·cases hv; simpa [Instr.loadAt,Instr.sureAddr,asAddr] using h5
    ·split at h0
     ·rename_i hop
      obtain⟨hS,Dj⟩:=kA hop
      cases hv with
      | fW yO _ hA =>
       rw[hS] at yO
       cases yO
       rw[hA Dj] at h5 ⊢
       simpa [Instr.loadAt,Instr.sureAddr,asAddr] using h5
     ·cases h0
    ·cases h0
   refine⟨v::vs,by simp only[List.mapM_cons,Sem.run_bind,hrun,Result.andThen_ok,h2,Sem.run_pure],by simpa using h3,fun j c hc => ?_⟩
   cases j with
   | zero=>simp only[List.getElem?_cons_zero,az] at hc; subst hc; exact h6
   | succ j=>simpa [aV] using h4 j c (by simpa using hc)
  ·cases h
theorem A6 (eC:jl P ty) {fn:Func} {env:List DV} {tmps:Array Value} (hR:Rel x) (he:gD x env tmps) {l:List DV} (h:qJ ty env x.S fn.results.toList=some l) :
  ∃ v,(results fn tmps).run P x.w = .ok v x.w∧RV x (oneOf l) v:=by
 obtain⟨vs,h1,h2,h3⟩:=Ei eC hR he h
 have hm:(fn.results.mapM (Lp tmps)).run P x.w = .ok vs.toArray x.w:=by
  rw[Array.mapM_eq_mapM_toList]
  simp only[Sem.run_map,h1,Result.andThen_ok]
 refine⟨if h:vs.toArray.size=1 then vs.toArray[0] else .tuple vs.toArray,?_,?_⟩
 ·rw[IM]
  simp only[Sem.run_bind,hm,Result.andThen_ok,Sem.run_pure]
 ·match l,vs,h2,h3 with
  | [],[],_,_=>exact .gI rfl (by simp)
  | [d],[v],_,h3=>exact h3 0 d rfl
  | d::e::l,v::u::vs,h2,h3=>exact .gI (by simpa using h2) h3
  | [],_::_,h2,_=>simp at h2
  | [_],[],h2,_=>simp at h2
  | [_],_::_::_,h2,_=>simp at h2
  | _::_::_,[],h2,_=>simp at h2
  | _::_::_,[_],h2,_=>simp at h2
theorem Qx {b:Frame} {a:Act} {todo:List Item} {c:Frame} {cs:List Frame} {w:World} {fn:Func} {v:Value} (hn:b.kind = .normal) (hd:a.defers=[]) (hf:P.funcs[b.fn]? = some fn) (hr:(results fn a.tmps).run P w = .ok v w) :
  ∃ es,stepG P true (G { b.at a todo with mode := .returning } (c::cs)) w = .go (G (c.finish v) cs) w es:=by
 simp only[G,stepG,unwind,doReturn,Frame.at,hn,hd,hf,Sem.runT_eq,hr,GStep.after]
 exact⟨_,rfl⟩
theorem Km {b:Frame} {a:Act} {todo:List Item} {cs:List Frame} {w w':World} {r:Nat} {ds:List Deferred} (hd:a.defers={ target := .collected r,args:=#[] }::ds) (hr:(Instr.takeDeferred r).run P w = .ok [] w') :
  ∃ es,stepG P true (G { b.at a todo with mode := .returning } cs) w = .go (G { b.at { a with defers:=ds } todo with mode := .returning } cs) w' es:=by
 simp only[G,stepG,unwind,Frame.at,hd,Sem.runT_eq,hr,GStep.after,List.nil_append]
 exact⟨_,rfl⟩
theorem J6 {x0:Cx} (M:cr x0 x) (hR:Rel x) {id:Nat} (hid:x0.S.length≤id) (hS:x.S[id]? = some .defer) :
  Rel { x with w:=bZ x.w (x.μ id) (.deferred none) }∧cr x0 { x with w:=bZ x.w (x.μ id) (.deferred none) }∧∀ d v,RV x d v→RV { x with w:=bZ x.w (x.μ id) (.deferred none) } d v:=by
 have jA:=aU hS (show DB.defer ≠ .none by simp)
 have aas:∀ i,Live x0.S i→i≠id:=by
  rintro i ⟨c,hc,-⟩ rfl
  have:=(aJ.1 hc).1
  omega
 have Pq:x0.w.heap.size≤x.μ id:=by
  rcases M.live id jA with ⟨h,-⟩ | h
  ·exact absurd rfl (aas id h)
  ·exact h
 have oE:∀ b,b≠x.μ id→(bZ x.w (x.μ id) (.deferred none)).heap[b]? = x.w.heap[b]? := fun b hb=>ga _ _ _ hb
 have HH:∀ b o,x.Fz b o→(bZ x.w (x.μ id) (.deferred none)).cell? ⟨b,o,none⟩=x.w.cell? ⟨b,o,none⟩:=fun b o h=>cell_of_block (oE b (by rintro rfl; exact hR.Pu hS rfl o h)) o
 have Na:∀ d v,RV x d v→RV { x with w:=bZ x.w (x.μ id) (.deferred none) } d v:=by
  intro d v h
  induction h with
  | val h=>exact .val h
  | agg h _ ih=>exact .agg h ih
  | gI h _ ih=>exact .gI h ih
  | sl hv _ h1 h2 h3 hsp h4 ih=>exact .sl (View.mono (x:=x) (y:={ x with w:=bZ x.w (x.μ id) (.deferred none) }) (fun b o h=>⟨h,HH b o h⟩) hv) ih h1 h2 h3 hsp h4
  | ptr h=>exact .ptr h
  | eS hv _ ih=>exact .eS (View.mono (x:=x) (y:={ x with w:=bZ x.w (x.μ id) (.deferred none) }) (fun b o h=>⟨h,HH b o h⟩) hv) ih
  | fn h1 h2 _ _ Lf M7=>exact .fn h1 h2 Lf M7
  | map h=>exact .map h
  | BA h=>exact .BA h
  | jG h h1 h2=>exact .jG h h1 h2
  | fW h h1 h2=>exact .fW h h1 h2
 have hne:∀ i b,x.S[i]? = some b→b ≠ .none→i≠id→x.μ i≠x.μ id:=fun i b hi hb h e=>h (hR.inj i id (aU hi hb) jA e)
 obtain⟨ob,hob,-⟩:=hR.eB id _ hS rfl
 refine⟨⟨fun i l hl => ?_,fun i e s n hl => ?_,fun i b hb NY => ?_,hR.inj,fun b o h => ?_,hR.sep,hR.ox,fun i e s l z hl => ?_⟩,⟨?_,M.env,fun b o h=>⟨(M.fz b o h).1,?_⟩,M.Ld,fun b hb hn => ?_,M.len,M.cells,fun i b hb NY => ?_,M.en,M.live,M.ops⟩,Na⟩
 ·obtain⟨arr,e,h1,h2,h3⟩:=hR.cells i l hl
  exact⟨arr,e,(oE _ (hne i _ hl (by simp) (by rintro rfl; rw[hS] at hl; cases hl))).trans h1,h2,fun j c hc=>Na _ _ (h3 j c hc)⟩
 ·obtain⟨arr,h1,h2⟩:=hR.en i e s n hl
  exact⟨arr,(oE _ (hne i _ hl (by simp) (by rintro rfl; rw[hS] at hl; cases hl))).trans h1,h2⟩
 ·by_cases h:i=id
  ·subst h
   rw[hS] at hb
   cases hb
   exact⟨_,vU _ _ _ _ hob,trivial⟩
  ·obtain⟨o,h1,h2⟩:=hR.eB i b hb NY
   refine⟨o,(oE _ (hne i _ hb (fR NY) h)).trans h1,?_⟩
   cases b<;>cases o<;>simp only[qQ] at h2 ⊢<;>first | exact h2 | trivial | (obtain⟨q1,q2,q3,q4,q5⟩:=h2; exact⟨q1,q2,q3,⟨q4.1,fun j c hc=>Na _ _ (q4.2 j c hc)⟩,q5⟩)
 ·obtain⟨v,hv⟩:=hR.yP b o h
  exact⟨v,(HH b o h).trans hv⟩
 ·obtain⟨arr,h1,h2,h3,h4,h5,h6⟩:=hR.ops i e s l z hl
  exact⟨arr,(oE _ (hne i _ hl (by simp) (by rintro rfl; rw[hS] at hl; cases hl))).trans h1,h2,h3,h4,fun j c hc=>⟨(h5 j c hc).1,Na _ _ (h5 j c hc).2⟩,h6⟩
 ·show _≤(bZ x.w _ _).heap.size
  simp only[bZ,si]
  exact M.size
 ·exact(HH b o (M.fz b o h).1).trans (M.fz b o h).2
 ·exact(oE b (by omega)).trans (M.old b hb hn)
 ·obtain⟨q1,q2,q3⟩:=M.eB i b hb NY
  refine⟨q1,q2,fun hd=>(oE _ ?_).trans (q3 hd)⟩
  rw[← q1]
  obtain⟨b',q4,q5⟩:=q2
  exact hne i b' q4 (fR (rD q5).2) (aas i (aU hb (fR NY)))
theorem Gg (hP:Plain P) (eC:jl P ty) {x0:Cx} {b:Frame} {todo:List Item} {c:Frame} {cs:List Frame} {fn:Func} {env:List DV} {l:List DV} (hb:b.kind = .normal) (hf:P.funcs[b.fn]? = some fn) {Sr:av} :
  ∀ (ds:List Nat) {a:Act} {x:Cx},x.S=Sr→Rel x→cr x0 x→gD x env a.tmps→qS x0.S.length x ds a.defers→qJ ty env Sr fn.results.toList=some l →
   (∀ y v,y.S=Sr→Rel y→cr x0 y→RV y (oneOf l) v→ia P aa () (G (c.finish v) cs) y.w)→ia P aa () (G { b.at a todo with mode := .returning } (c::cs)) x.w
 | [],a,x,hS,hR,hM,he,hd,hr,hn=>by
  refine ij hP fun n => ?_
  have HJ:a.defers=[]:=hd.1
  obtain⟨v,h1,h2⟩:=A6 (x:=x.dr n) eC (hR.dr n) (he.mono (eE x n)) (l:=l) (by show qJ ty env x.S _=_; rw[hS]; exact hr)
  obtain⟨es,hst⟩:=Qx (P:=P) (b:=b) (a:=a) (todo:=todo) (c:=c) (cs:=cs) hb HJ hf h1
  exact⟨_,_,_,es,hst,hn (x.dr n) v hS (hR.dr n) (hM.trans (eE x n)) h2⟩
 | id::ds,a,x,hS,hR,hM,he,hd,hr,hn=>by
  obtain⟨q1,q2,q3⟩:=hd
  obtain⟨r1,r2,r3⟩:=q3 id (by simp)
  refine ij hP fun n => ?_
  have lR:=hR.dr n
  have Vp:=hM.trans (eE x n)
  obtain⟨t1,t2,t3⟩:=J6 (x:=x.dr n) Vp lR r1 r2
  have hg:=iN (P:=P) (w:=x.w.at n) (show (x.w.at n).heap[x.μ id]? = _ from r3) (by simp)
  have hs:=jM (P:=P) (w:=x.w.at n) (o := .deferred none) (show (x.w.at n).heap[x.μ id]? = _ from r3) (by simp)
  have JJ:(Instr.takeDeferred (x.μ id)).run P (x.w.at n) = .ok [] (bZ (x.w.at n) (x.μ id) (.deferred none)):=by
   simp only[Instr.takeDeferred,Sem.run_bind,hg,Result.andThen_ok,hs,Sem.run_pure]
  obtain⟨es,hst⟩:=Km (P:=P) (b:=b) (a:=a) (todo:=todo) (cs:=c::cs) (ds:=ds.map fun id=>{ target := .collected (x.μ id),args:=#[] }) (by rw[q1]; rfl) JJ
  refine⟨_,_,_,es,hst,?_⟩
  have RN:=List.nodup_cons.1 q2
  exact Gg hP eC hb hf ds (x:={ x.dr n with w:=bZ (x.w.at n) (x.μ id) (.deferred none) }) (a:={ a with defers:=ds.map fun id=>{ target := .collected (x.μ id),args:=#[] } }) hS t1 t2 ⟨he.1,fun j c hc=>t3 _ _ (RV.mono (eE x n) (he.2 j c hc))⟩
   ⟨rfl,RN.2,fun i hi=>by
    obtain⟨u1,u2,u3⟩:=q3 i (by simp[hi])
    have hne:x.μ i≠x.μ id:=fun e=>RN.1 (hR.inj i id (aU u2 (by simp)) (aU r2 (by simp)) e▸hi)
    exact⟨u1,u2,(ga _ _ _ hne).trans u3⟩⟩ hr hn
theorem RA (hP:Plain P) (eC:jl P ty) (hc:jL P aa call) (kH:∀ id ops draw,vc P aa ty aI call yf id ops draw) {L:Nat} {f:FuncId} {fn:Func} (hf:P.funcs[f]? = some fn) {args:List DV} {S S':av} {v:DV} (h:tq P ty aI call yf L f fn args S=some (v,S'))
  {vals:Array Value} (hR:Rel x) (hS:x.S=S) (ha:gD x args vals):eH P aa x f vals fun y u=>y.S=S'∧Rel y∧cr x y∧RV y v u:=by
 subst hS
 unfold tq at h
 split at h
 ·rename_i c hb
  refine⟨⟨fn,c,hf,hb⟩,fun fr cs hn => ?_⟩
  rw[enter_at vals hf hb,← Frame.atR_of_none (b:=base f) rfl]
  have he:gD x (args++List.replicate (fn.ntmps-args.length) bz) (vals++Array.replicate (fn.ntmps-vals.size) undef):=by
   refine kT ha ⟨by simp[ha.1],fun j c hc => ?_⟩
   rw[mN] at hc
   split at hc
   ·rename_i hj
    cases hc
    have:j<fn.ntmps-vals.size:=by rw[ha.1]; exact hj
    have e:(Array.replicate (fn.ntmps-vals.size) undef).getD j undef=undef:=by simp[aV,this]
    rw[e]
    exact .val rfl
   ·cases hc
  have key:∀ e aC S1,cG P ty aI call yf L f false c (args++List.replicate (fn.ntmps-args.length) bz) x.S=some (e,aC,S1)→(e = .normal∨e = .ret)→(qJ ty aC S1 fn.results.toList).map (fun l=>(oneOf l,S1))=some (v,S') →
    ia P aa () (G ((base f).atR { tmps:=vals++Array.replicate (fn.ntmps-vals.size) undef,defers:=[] } [.code c]) (fr::cs)) x.w:=by
   intro e aC S1 h1 he1 h2
   simp only[ah,ax] at h2
   obtain⟨l,h3,rfl,rfl⟩:=h2
   refine vM (n0:=x.S.length) (ds:=[]) (b:=base f) (cs:=fr::cs) (iA:=false) hP hc (by simp[base]) rfl (fun _=>rfl) c (vE kH c) h1 hR he (xz _ _) (ai _) fun y a' gW q1 q2 q3 q4 q5 => ?_
   have jJ:∀ todo,ia P aa () (G { (base f).at a' todo with mode := .returning } (fr::cs)) y.w:=fun todo =>
    Gg hP eC (x0:=x) (b:=base f) (env:=aC) (l:=l) (Sr:=S1) rfl hf gW q1 q2 q3 q4 q5 h3 fun z u r1 r2 r3 r4=>hn z u ⟨r1,r2,r3,r4⟩
   rcases he1 with rfl | rfl
   ·show ia P aa () (G ((base f).atR a' []) (fr::cs)) y.w
    rw[Frame.atR_of_none (b:=base f) rfl]
    exact fe hP (fun w=>⟨_,stepG_end⟩) (jJ _)
   ·intro k'
    rw[Frame.atR_of_none (b:=base f) rfl]
    exact fe hP (fun w=>⟨_,stepG_ret'⟩) (jJ _)
  split at h
  ·rename_i aC S1 h1
   exact key _ _ _ h1 (.inl rfl) h
  ·rename_i aC S1 h1
   exact key _ _ _ h1 (.inr rfl) h
  ·cases h
 ·cases h
theorem Kb:∀ {ts:List Tmp} {ds:List DV} {vs:List Value} {env:List DV} {tmps:Array Value},gD x env tmps→vs.length=ds.length→(∀ (j:Nat) (c:DV),ds[j]? = some c→RV x c (vs.getD j undef)) →
  gD x (zQ env (ts.zip ds)) ((ts.zip vs).foldl (fun tmps (p:Tmp×Value)=>tmps.setIfInBounds p.1 p.2) tmps)
 | [],ds,vs,env,tmps,h,_,_=>by simpa [zQ] using h
 | t::ts,[],[],env,tmps,h,_,_=>by simpa [zQ] using h
 | t::ts,[],_::_,env,tmps,h,hl,_=>by simp at hl
 | t::ts,_::_,[],env,tmps,h,hl,_=>by simp at hl
 | t::ts,d::ds,v::vs,env,tmps,h,hl,hv=>by
  simp only[List.zip_cons_cons,zQ,List.foldl_cons]
  exact Kb (Kc h (by simpa using hv 0 d rfl)) (by simpa using hl) fun j c hc=>by simpa using hv (j+1) c (by simpa using hc)
theorem QA {b:Frame} {a:Act} {k:List Item} {cs:List Frame} {w w':World} {l:Nat} (hk:b.kind ≠ .early) (hr:b.roundOf=some l) (h:(Instr.beginRound l).run P w = .ok () w') :
  ∃ es,stepG P true (G (b.atR a (.beginRound::k)) cs) w = .go (G (b.atR a k) cs) w' es:=by
 have oI:(b.kind==CallKind.early)=false:=by simpa using hk
 simp only[G,stepG,stepG.exec,Frame.atR,hr,stepG.apply,Option.elim_some,if_true,Sem.runT_eq,Sem.run_bind,h,Result.andThen_ok,Sem.run_pure,oI,GStep.after,Frame.finish]
 exact⟨_,rfl⟩
theorem EF {b:Frame} {a:Act} {c:Frame} {cs:List Frame} {w w':World} {l:Nat} {v:Value} (hn:b.kind = .normal) (hr:b.roundOf=some l) (h:(Instr.endRound l none).run P w = .ok v w') :
  ∃ es,stepG P true (G (b.atR a []) (c::cs)) w = .go (G (c.finish v) cs) w' es:=by
 simp only[G,stepG,stepG.exec,Frame.atR,hr,Sem.runT_eq,h,GStep.after,doReturn,hn]
 exact⟨_,rfl⟩
theorem EE {b:Frame} {a:Act} {k:List Item} {c:Frame} {cs:List Frame} {w w':World} {l:Nat} {v:Value} (hn:b.kind = .normal) (hr:b.roundOf=some l) (h:(Instr.endRound l (some .ret)).run P w = .ok v w') :
  ∃ es,stepG P true (G (b.atR a (.code .ret::k)) (c::cs)) w = .go (G (c.finish v) cs) w' es:=by
 simp only[G,stepG,stepG.exec,Frame.atR,hr,Sem.runT_eq,h,GStep.after,doReturn,hn]
 exact⟨_,rfl⟩
theorem BW {b:Frame} {a:Act} {k:List Item} {c:Frame} {cs:List Frame} {w w':World} {l id:Nat} {v:Value} (hn:b.kind = .normal) (hr:b.roundOf=some l) (he:exitTo id k=none) (h:(Instr.endRound l (some (.exit id))).run P w = .ok v w') :
  ∃ es,stepG P true (G (b.atR a (.code (.exit id)::k)) (c::cs)) w = .go (G (c.finish v) cs) w' es:=by
 simp only[G,stepG,stepG.exec,Frame.atR,hr,he,Option.elim_none,Sem.runT_eq,h,GStep.after,doReturn,hn]
 exact⟨_,rfl⟩
theorem L6 (hP:Plain P) (hc:jL P aa call) (kH:∀ id ops draw,vc P aa ty aI call yf id ops draw) {L:Nat}:xY P aa (Ie P ty aI call yf L):=by
 intro id args S v S' h x vals hR hS ha
 subst hS
 unfold Ie at h
 split at h
 ·rename_i r hr
  split at h
  ·rename_i hlen
   obtain⟨lo,l1,l2,l3,l4,l5,l6,l7,l8,-⟩:=rC hR hr
   refine⟨lo,l1,by rw[l6]; simpa [ha.1] using hlen,fun fr cs hn => ?_⟩
   have Fc:∀ tmps,Frame.round (x.μ id) lo.fn tmps lo.assign lo.body .normal=({ (default:Frame) with fn:=r.fn,kind := .normal,roundOf:=some (x.μ id) }:Frame).atR { tmps:=tmps,defers:=[] } [.code r.assign,.beginRound,.code r.body]:=by
    intro tmps
    simp[Frame.round,Frame.atR,l4,l7,l8]
   rw[Fc]
   generalize hB:({ (default:Frame) with fn:=r.fn,kind := .normal,roundOf:=some (x.μ id) }:Frame)=B
   have Vq:B.kind = .normal:=by rw[← hB]
   have hBf:B.fn=r.fn:=by rw[← hB]
   have hBr:B.roundOf=some (x.μ id):=by rw[← hB]
   have hBe:B.kind ≠ .early:=by rw[Vq]; simp
   have he:gD x (zQ r.env (r.params.zip args)) ((lo.params.zip vals).foldl (fun tmps (t,a)=>tmps.setIfInBounds t a) lo.tmps):=by
    have:=Kb (ts:=r.params) (ds:=args) (vs:=vals.toList) l5 (by simpa using ha.1) fun j c hc=>by simpa [aV,aL] using ha.2 j c hc
    rw[l6,← Array.foldl_toList]
    simpa using this
   split at h
   ·rename_i aaL S1 h1
    split at h
    ·rename_i r1 wq
     split at h
     ·rename_i hst
      split at h
      ·rename_i e aec S2 h2
       split at h
       ·rename_i r2 Nc
        refine vM (n0:=0) (ds:=[]) (b:=B) (cs:=fr::cs) (iA:=true) hP hc hBe hBf (by simp) r.assign (vE kH _) h1 hR he (xz _ _) (jD _) fun y a1 ds1 q1 q2 q3 q4 q5 => ?_
        subst q1
        obtain⟨U7,m1,m2,m3,-⟩:=rC q2 wq
        have hμy:y.μ id=x.μ id:=(q3.eB id _ hr rfl).1
        refine ij hP fun n => ?_
        obtain⟨z1,z2⟩:=Al (q2.dr n) (id:=id) wq (lo:=U7) m1 .busy r1.jI
        have ac1:({ U7 with state := .busy,pending:=r1.jI }:Loop)={ U7 with state := .busy }:=by rw[← m3]
        rw[ac1] at z1 z2
        have adh:(Instr.beginRound (x.μ id)).run P (y.w.at n) = .ok () (bZ (y.w.at n) (x.μ id) (.loop { U7 with state := .busy })):=by
         have hg:=iN (P:=P) (w:=y.w.at n) (show (y.w.at n).heap[x.μ id]? = _ from(by rw[← hμy]; exact m1)) (by simp)
         have hs:=jM (P:=P) (w:=y.w.at n) (o := .loop { U7 with state := .busy }) (show (y.w.at n).heap[x.μ id]? = _ from(by rw[← hμy]; exact m1)) (by simp)
         have Ve:U7.state = .ready:=by rw[m2]; exact hst
         simp only[Instr.beginRound,Instr.getLoop,Sem.run_bind,hg,Result.andThen_ok,Sem.run_pure,hs,Ve]
        obtain⟨es,hstep⟩:=QA (P:=P) (a:=a1) (k:=[.code r.body]) (cs:=fr::cs) hBe hBr adh
        refine⟨_,_,_,es,hstep,?_⟩
        generalize hz:(y.dr n).tL id (.loop { U7 with state := .busy }) (.loop { r1 with st := .busy,jI:=r1.jI })=z at z1 z2
        have hzS:z.S=y.S.set id (.loop { r1 with st := .busy }):=by rw[← hz]; rfl
        have hzw:z.w=bZ (y.w.at n) (x.μ id) (.loop { U7 with state := .busy }):=by
         rw[← hz]
         show bZ (y.w.at n) (y.μ id) _=_
         rw[hμy]
        rw[← hzw]
        have MYZ:=(eE y n).trans z2
        rw[← hzS] at h2
        refine vM (n0:=0) (ds:=ds1) (b:=B) (cs:=fr::cs) (k:=[]) (iA:=true) hP hc hBe hBf (by simp) r.body (vE kH _) h2 z1 (q4.mono MYZ) (q5.mono MYZ) (jD _) fun u a2 ds2 p1 p2 p3 p4 p5 => ?_
        subst p1
        obtain⟨Ws,n1,-⟩:=rC p2 Nc
        have hμu:u.μ id=x.μ id:=by
         have:=(p3.eB id _ (show z.S[id]? = some (.loop { r1 with st := .busy }) by rw[hzS,gl wq,if_pos rfl]) rfl).1
         rw[this,← hz]
         exact hμy
        have MXU:=(q3.trans MYZ).trans p3
        have fin:∀ st pd,∀ n2,(Instr.endRound (x.μ id) pd).run P (u.w.at n2) = .ok (.bool pd.isNone) (bZ (u.w.at n2) (x.μ id) (.loop { Ws with state:=if pd.isNone then .ready else .done,pending:=pd }))→st=(if pd.isNone then LoopState.ready else .done)→S'=u.S.set id (.loop { r2 with st:=st,jI:=pd })→v = .val (.bool pd.isNone) →
          ia P aa () (G (fr.finish (.bool pd.isNone)) cs) (bZ (u.w.at n2) (x.μ id) (.loop { Ws with state:=if pd.isNone then .ready else .done,pending:=pd })):=by
         intro st pd n2 _ NX yO hv
         obtain⟨y1,y2⟩:=Al (p2.dr n2) (id:=id) Nc (lo:=Ws) n1 st pd
         have:=hn ((u.dr n2).tL id (.loop { Ws with state:=st,pending:=pd }) (.loop { r2 with st:=st,jI:=pd })) (.bool pd.isNone) ⟨yO.symm,y1,(MXU.trans (eE u n2)).trans y2,by rw[hv]; exact .val rfl⟩
         have e:((u.dr n2).tL id (.loop { Ws with state:=st,pending:=pd }) (.loop { r2 with st:=st,jI:=pd })).w=bZ (u.w.at n2) (x.μ id) (.loop { Ws with state:=if pd.isNone then .ready else .done,pending:=pd }):=by
          show bZ (u.w.at n2) (u.μ id) _=_
          rw[hμu,NX]
         rw[e] at this
         exact this
        have qK:∀ pd n2,(Instr.endRound (x.μ id) pd).run P (u.w.at n2) = .ok (.bool pd.isNone) (bZ (u.w.at n2) (x.μ id) (.loop { Ws with state:=if pd.isNone then .ready else .done,pending:=pd })):=by
         intro pd n2
         have hg:=iN (P:=P) (w:=u.w.at n2) (show (u.w.at n2).heap[x.μ id]? = _ from(by rw[← hμu]; exact n1)) (by simp)
         have hs:=fun o=>jM (P:=P) (w:=u.w.at n2) (o:=o) (show (u.w.at n2).heap[x.μ id]? = _ from(by rw[← hμu]; exact n1)) (by simp)
         simp only[Instr.endRound,Instr.getLoop,Sem.run_bind,hg,Result.andThen_ok,Sem.run_pure,hs]
        cases e with
        | normal =>
         simp only[az,ax] at h
         refine ij hP fun n2 => ?_
         obtain⟨Vs,yD⟩:=EF (P:=P) (a:=a2) (c:=fr) (cs:=cs) Vq hBr (qK none n2)
         exact⟨_,_,_,Vs,yD,fin .ready none n2 (qK none n2) rfl h.2.symm h.1.symm⟩
        | ret =>
         simp only[az,ax] at h
         intro k'
         refine ij hP fun n2 => ?_
         obtain⟨Vs,yD⟩:=EE (P:=P) (a:=a2) (k:=k') (c:=fr) (cs:=cs) Vq hBr (qK (some .ret) n2)
         exact⟨_,_,_,Vs,yD,fin .done (some .ret) n2 (qK (some .ret) n2) rfl h.2.symm h.1.symm⟩
        | exit i =>
         simp only[az,ax] at h
         intro k' oI
         refine ij hP fun n2 => ?_
         obtain⟨Vs,yD⟩:=BW (P:=P) (a:=a2) (k:=k') (c:=fr) (cs:=cs) Vq hBr oI (qK (some (.exit i)) n2)
         exact⟨_,_,_,Vs,yD,fin .done (some (.exit i)) n2 (qK (some (.exit i)) n2) rfl h.2.symm h.1.symm⟩
       ·cases h
      ·cases h
     ·cases h
    ·cases h
   ·cases h
  ·cases h
 ·cases h
end Go.Di
end
