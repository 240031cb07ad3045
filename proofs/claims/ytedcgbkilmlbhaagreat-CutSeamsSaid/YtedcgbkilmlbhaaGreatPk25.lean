import Derived.Test.YtedcgbkilmlbhaaGreatPk24
import Derived.RangeFuncIn
section
namespace Go.Di
open Go Go.Conc Go.Co
variable {P:Program} {af:Machine→Trace→Prop} {ty:ir} {x:Cx} {aM:bV} {call:bP} {yf:fI}
def sC (P:Program) (af:Machine→Trace→Prop) (ty:ir) (aM:bV) (call:bP) (yf:fI) (id:Nat) (ops:Array Oper) (draw:Bool):Prop :=
 ∀ {env aD:List DV} {S':ax} {x:Cx} {a:Act} {b:Frame} {k:List Item} {cs:List Frame},oQ P ty aM call yf ops draw env x.S=some (aD,S')→b.kind ≠ .early→Rel x→gn x env a.tmps →
  (∀ y a',y.S=S'→Rel y→bZ x y→gn y aD a'.tmps→a'.defers=a.defers→iz P af () (G (b.atR a' k) cs) y.w)→iz P af () (G (b.atR a (.code (.region id ops draw)::k)) cs) x.w
def BP (P:Program) (af:Machine→Trace→Prop) (ty:ir) (aM:bV) (call:bP) (yf:fI):Code→Prop
 | .region id ops draw=>sC P af ty aM call yf id ops draw
 | .seq a b | .cond _ a b=>BP P af ty aM call yf a∧BP P af ty aM call yf b
 | .block _ c | .loop c | .scope c=>BP P af ty aM call yf c
 | _=>True
theorem Oc (hP:Plain P) (eY:j4 P ty) (hc:jr P af call) (hi:wW P af aM) (Js:wT P af yf) (id:Nat) (ops:Array Oper):sC P af ty aM call yf id ops false:=by
 intro env aD S' x a b k cs h hk hR he hn
 simp only[oQ,aF,if_false] at h
 refine dY hP (fun w=>⟨_,Eh⟩) ?_
 have:=FT hP eY hc hi Js hk ops.toList [] rfl h hR he hn
 rw[List.range_eq_range']
 simpa using this
def G0 (P:Program) (af:Machine→Trace→Prop) (b:Frame) (k:List Item) (cs:List Frame):DX→Act→World→Prop
 | .normal,a,w=>iz P af () (G (b.atR a k) cs) w
 | .exit id,a,w=>∀ k',exitTo id k'=exitTo id k→iz P af () (G (b.atR a (.code (.exit id)::k')) cs) w
 | .ret,a,w=>∀ k',iz P af () (G (b.atR a (.code .ret::k')) cs) w
theorem G0.push {b:Frame} {k:List Item} {cs:List Frame} {e:DX} {a:Act} {w:World} {i:Item} (hi:∀ id,exitTo id (i::k)=exitTo id k) (he:e ≠ .normal) (h:G0 P af b k cs e a w):G0 P af b (i::k) cs e a w:=by
 cases e with
 | normal=>exact absurd rfl he
 | exit id=>exact fun k' pK=>h k' (pK.trans (hi id))
 | ret=>exact h
def oN (n0:Nat) (x:Cx) (ds:List Nat) (l:List Deferred):Prop:=l=ds.map (fun id=>{ target := .collected (x.μ id),args:=#[] })∧ds.Nodup∧∀ id∈ds,n0≤id∧x.S[id]? = some .defer∧x.w.heap[x.μ id]? = some (.deferred (some []))
theorem oN.mono {n0:Nat} {y:Cx} (M:bZ x y) {ds:List Nat} {l:List Deferred} (h:oN n0 x ds l):oN n0 y ds l:=by
 obtain⟨h1,h2,h3⟩:=h
 have hμ:∀ id∈ds,y.μ id=x.μ id:=fun id hid=>(M.eR id _ (h3 id hid).2.1 rfl).1
 refine⟨?_,h2,fun id hid => ?_⟩
 ·rw[h1]
  exact List.map_congr_left fun id hid=>by rw[hμ id hid]
 ·obtain⟨q1,q2,q3⟩:=h3 id hid
  obtain⟨r1,⟨b',r2,r3⟩,r4⟩:=M.eR id _ q2 rfl
  have:b' = .defer:=by cases b'<;>first | rfl | exact r3.elim
  subst this
  exact⟨q1,r2,by rw[hμ id hid,r4 rfl]; exact q3⟩
theorem uj (n0:Nat) (x:Cx):oN n0 x [] []:=⟨rfl,List.nodup_nil,by simp⟩
theorem Gn {b : Frame} {a : Act} {k : List Item} {cs : List Frame} {w : World} {g : Operand} {ps : Array Tmp} {assign body : Code} {f : FuncId} {fs vs : Array Value} {fn : Func} {c : Code} (hk : b.kind ≠ .early) (hr : b.roundOf = none) (hg : a.eval g = .func (.func f) fs vs) (hf : P.funcs[f]? = some fn) (hb : fn.body = some c) (wM : (fn.name == "runtime.NumGoroutine") = false) :
  ∃ es,stepG P true (G (b.atR a (.code (.rangeFunc g ps assign body)::k)) cs) w =
   .go (G (Frame.enter P f (fs++#[.func (.yield (w.heap.size+1)) #[] #[]]++vs) .normal) (b.atR { a with defers:={ target := .collected w.heap.size,args:=#[] }::a.defers } (.inRangeFunc (w.heap.size+1)::k)::cs))
    ((w.alloc (.deferred (some []))).alloc (.loop { state := .ready,pending:=none,fn:=b.fn,tmps:=a.tmps,params:=ps,assign,body,defers:=w.heap.size })) es:=by
 have pK:(b.kind==CallKind.early)=false:=by simpa using hk
 have tC:=Frame.eval_atR b { a with defers:={ target := .collected w.heap.size,args:=#[] }::a.defers } (.inRangeFunc (w.heap.size+1)::k)
 simp only[Frame.atR,hr] at tC
 have ae3:({ tmps:=a.tmps,defers:={ target := .collected w.heap.size,args:=#[] }::a.defers }:Act).eval g = .func (.func f) fs vs:=by
  rw[← hg]; cases g<;>rfl
 have PK:∀ (w2:World),(do let d ← resolve ({ tmps:=a.tmps,defers:={ target := .collected w.heap.size,args:=#[] }::a.defers }:Act).eval { callee := .value g,args:=#[.const (.func (.yield (w.heap.size+1)) #[] #[])],argTypes:=#[] } 0; invoke d.target d.args:Sem Next).run P w2 = .ok (.enter f (fs++#[.func (.yield (w.heap.size+1)) #[] #[]]++vs)) w2:=by
  intro w2
  have aeX:∀ (a:Act) (v:Value),a.eval (.const v)=v:=fun _ _=>rfl
  have hn2 : ¬ fn.name = "runtime.NumGoroutine" := by simpa using wM
  simp[resolve,ae3,aeX,Deferred.ofValue,invoke,callFunc,hf,hn2,hb]
 have J9:(Instr.enterLoop b.fn a.tmps ps assign body none).run P w = .ok (w.heap.size+1,[{ target := .collected w.heap.size,args:=#[] }])
   ((w.alloc (.deferred (some []))).alloc (.loop { state := .ready,pending:=none,fn:=b.fn,tmps:=a.tmps,params:=ps,assign,body,defers:=w.heap.size })):=by
  simp[Instr.enterLoop]
 simp only[G,stepG,stepG.exec,Frame.atR,hr,Sem.runT_eq,J9,stepG.apply,tC,if_true,PK,pK,List.singleton_append,GStep.after,aF,if_false]
 exact⟨_,rfl⟩
end Go.Di
end
section
namespace Go.Di
open Go Go.Conc Go.Co
variable {P:Program} {af:Machine→Trace→Prop} {ty:ir} {x:Cx} {aM:bV} {call:bP} {yf:fI}
theorem I5 {b:Frame} {a:Act} {k:List Item} {cs:List Frame} {w w':World} {l:Nat} {jump:Option Code} (h:(Instr.endLoop l).run P w = .ok jump w') :
  ∃ es,stepG P true (G (b.atR a (.endRangeFunc l::k)) cs) w = .go (G (b.atR a ((jump.map Item.code).toList++k)) cs) w' es:=by
 simp only[G,stepG,stepG.exec,Frame.atR,Sem.runT_eq,h,GStep.after]
 exact⟨_,rfl⟩
theorem sV (hR:Rel x) {id:Nat} {r:LX} (h:x.S[id]? = some (.loop r)):∃ lo,x.w.heap[x.μ id]? = some (.loop lo)∧lo.state=r.st∧lo.pending=r.kB∧lo.fn=r.fn∧gn x r.env lo.tmps∧lo.params=r.params.toArray∧lo.assign=r.assign∧lo.body=r.body∧lo.defers=x.μ r.dfr∧x.S[r.dfr]? = some .defer:=by
 obtain⟨o,h1,h2⟩:=hR.eR id _ h rfl
 cases o<;>simp only[sD] at h2
 exact⟨_,h1,h2⟩
theorem BS (hR:Rel x) {id:Nat} {r:LX} (h:x.S[id]? = some (.loop r)) {lo:Loop} (Pe:x.w.heap[x.μ id]? = some (.loop lo)) (st:LoopState) (pd:Option Code) :
  Rel (x.vp id (.loop { lo with state:=st,pending:=pd }) (.loop { r with st:=st,kB:=pd }))∧bZ x (x.vp id (.loop { lo with state:=st,pending:=pd }) (.loop { r with st:=st,kB:=pd })):=by
 obtain⟨lo',h1,h2,h3,h4,h5,h6,h7,h8,h9,x6⟩:=sV hR h
 rw[Pe] at h1
 cases h1
 have M:=yL (x:=x) (o := .loop { lo with state:=st,pending:=pd }) (b := .loop { r with st:=st,kB:=pd }) hR h rfl (by simp)
 refine⟨H8 hR h rfl (by simp) ⟨rfl,rfl,h4,h5.mono M,h6,h7,h8,h9,?_⟩,M⟩
 show (x.S.set _ _)[_]? = _
 rw[ej h,if_neg (by rintro e; rw[e,h] at x6; cases x6)]
 exact x6
theorem AP (S:ax):DJ S S.length := .inl rfl
theorem zJ (S:ax) (b:DB):eV S S.length b=S++[b]:=by unfold eV; rw[if_neg (by omega)]
set_option maxHeartbeats 1000000 in
theorem oA (hP:Plain P) (hc:jr P af call) {L:Nat} {fn:FuncId} {iJ:Bool} {n0:Nat} {b:Frame} {cs:List Frame} (hk:b.kind ≠ .early) (Lj:b.fn=fn) (PC:iJ=false→b.roundOf=none) :
  ∀ (c:Code),BP P af ty aM call yf c→∀ {k:List Item} {env aD:List DV} {S':ax} {e:DX} {a:Act} {x:Cx} {ds:List Nat},ct P ty aM call yf L fn iJ c env x.S=some (e,aD,S')→Rel x→gn x env a.tmps→oN n0 x ds a.defers→n0≤x.S.length →
   (∀ y a' gR,y.S=S'→Rel y→bZ x y→gn y aD a'.tmps→oN n0 y gR a'.defers→G0 P af b k cs e a' y.w)→iz P af () (G (b.atR a (.code c::k)) cs) x.w:=by
 intro c
 induction c with
 | skip =>
  intro _ k env aD S' e a x ds h hR he hd tA hn
  simp only[ct,aB,ay] at h
  obtain⟨rfl,rfl,rfl⟩:=h
  exact dY hP (fun w=>⟨_,Wv⟩) (hn x a ds rfl hR (bZ.refl x) he hd)
 | label l =>
  intro _ k env aD S' e a x ds h hR he hd tA hn
  simp only[ct,aB,ay] at h
  obtain⟨rfl,rfl,rfl⟩:=h
  exact dY hP (fun w=>⟨_,SN⟩) (hn x a ds rfl hR (bZ.refl x) he hd)
 | region id ops draw =>
  intro je k env aD S' e a x ds h hR he hd tA hn
  simp only[ct,ai,ay] at h
  obtain⟨⟨mH,S1⟩,h1,rfl,rfl,rfl⟩:=h
  exact je h1 hk hR he fun y a' q1 q2 q3 q4 q5=>hn y a' ds q1 q2 q3 q4 (by rw[q5]; exact hd.mono q3)
 | seq c1 c2 Na O7 =>
  intro je k env aD S' e a x ds h hR he hd tA hn
  simp only[ct] at h
  refine dY hP (fun w=>⟨_,Fq⟩) ?_
  split at h
  ·rename_i mH S1 h1
   refine Na je.1 h1 hR he hd tA fun y a' gR q1 q2 q3 q4 q5 => ?_
   subst q1
   exact O7 je.2 h q2 q4 q5 (aS tA q3.len) fun z a'' Qc r1 r2 r3 r4 r5=>hn z a'' Qc r1 r2 (q3.trans r3) r4 r5
  ·rename_i r hne
   refine Na je.1 h hR he hd tA fun y a' gR q1 q2 q3 q4 q5=>G0.push (fun _=>rfl) ?_ (hn y a' gR q1 q2 q3 q4 q5)
   rintro rfl
   exact hne _ _ h
 | cond o c1 c2 Na O7 =>
  intro je k env aD S' e a x ds h hR he hd tA hn
  simp only[ct] at h
  split at h
  ·rename_i ho
   have hv:=mS (vE he _ _ ho)
   refine dY hP (fun w=>⟨_,Mp hv⟩) ?_
   rw[if_pos rfl]
   exact Na je.1 h hR he hd tA hn
  ·rename_i ho
   have hv:=mS (vE he _ _ ho)
   refine dY hP (fun w=>⟨_,Mp hv⟩) ?_
   rw[if_neg (by simp)]
   exact O7 je.2 h hR he hd tA hn
  ·cases h
 | block id c ih =>
  intro je k env aD S' e a x ds h hR he hd tA hn
  simp only[ct] at h
  refine dY hP (fun w=>⟨_,SO⟩) ?_
  split at h
  ·rename_i jE mH S1 h1
   cases h
   refine ih je h1 hR he hd tA fun y a' gR q1 q2 q3 q4 q5 => ?_
   have hf:=hn y a' gR q1 q2 q3 q4 q5
   intro k' pK
   simp only[exitTo] at pK
   by_cases hid:jE=id
   ·subst hid
    simp only[beq_self_eq_true,if_true] at pK hf
    exact dY hP (fun w=>⟨_,Wx pK⟩) hf
   ·rw[if_neg hid] at hf
    have:(id==jE)=false:=by simpa using fun e=>hid e.symm
    rw[this] at pK
    exact hf k' pK
  ·rename_i r hne
   refine ih je h hR he hd tA fun y a' gR q1 q2 q3 q4 q5 => ?_
   have hf:=hn y a' gR q1 q2 q3 q4 q5
   cases e with
   | normal=>exact dY hP (fun w=>⟨_,KH⟩) hf
   | exit jE=>exact absurd h (hne _ _ _)
   | ret=>exact hf
 | loop c ih =>
  intro je k env aD S' e a x ds h hR he hd tA hn
  simp only[ct] at h
  refine dY hP (fun w=>⟨_,Ww⟩) ?_
  have key:∀ n {env:List DV} {a:Act} {x:Cx} {ds:List Nat},ni (ct P ty aM call yf L fn iJ c) n env x.S=some (e,aD,S')→Rel x→gn x env a.tmps→oN n0 x ds a.defers→n0≤x.S.length →
    (∀ y a' gR,y.S=S'→Rel y→bZ x y→gn y aD a'.tmps→oN n0 y gR a'.defers→G0 P af b k cs e a' y.w)→iz P af () (G (b.atR a (.code c :: .inLoop c::k)) cs) x.w:=by
   intro n
   induction n with
   | zero=>intro env a x ds h; simp[ni] at h
   | succ n ihn =>
    intro env a x ds h hR he hd tA hn
    unfold ni at h
    split at h
    ·rename_i mH S1 h1
     refine ih je h1 hR he hd tA fun y a' gR q1 q2 q3 q4 q5 => ?_
     subst q1
     exact dY hP (fun w=>⟨_,Oe⟩) (ihn h q2 q4 q5 (aS tA q3.len) fun z a'' Qc r1 r2 r3 r4 r5=>hn z a'' Qc r1 r2 (q3.trans r3) r4 r5)
    ·rename_i r hne
     refine ih je h hR he hd tA fun y a' gR q1 q2 q3 q4 q5=>G0.push (fun _=>rfl) ?_ (hn y a' gR q1 q2 q3 q4 q5)
     rintro rfl
     exact hne _ _ h
  exact key L h hR he hd tA hn
 | scope c ih =>
  intro je k env aD S' e a x ds h hR he hd tA hn
  simp only[ct] at h
  refine dY hP (fun w=>⟨_,SL⟩) ?_
  refine ih je h hR he hd tA fun y a' gR q1 q2 q3 q4 q5 => ?_
  have hf:=hn y a' gR q1 q2 q3 q4 q5
  cases e with
  | normal=>exact dY hP (fun w=>⟨_,KF⟩) hf
  | exit jE=>exact G0.push (fun _=>rfl) (by simp) hf
  | ret=>exact hf
 | exit id =>
  intro _ k env aD S' e a x ds h hR he hd tA hn
  simp only[ct,aB,ay] at h
  obtain⟨rfl,rfl,rfl⟩:=h
  exact hn x a ds rfl hR (bZ.refl x) he hd k rfl
 | ret =>
  intro _ k env aD S' e a x ds h hR he hd tA hn
  simp only[ct,aB,ay] at h
  obtain⟨rfl,rfl,rfl⟩:=h
  exact hn x a ds rfl hR (bZ.refl x) he hd k
 | goto l=>intro _ k env aD S' e a x ds h; simp[ct] at h
 | refuse why=>intro _ k env aD S' e a x ds h; simp[ct] at h
 | rangeFunc f ps Nl body _ _ =>
  intro _ k env aD S' e a x ds h hR he hd tA hn
  simp only[ct] at h
  split at h
  ·cases h
  ·rename_i aeE
   have hro:=PC (by simpa using aeE)
   split at h
   ·rename_i g fs vs hf
    have XO:=vE he _ _ hf
    generalize hv:a.eval f=vf at XO
    cases XO with
    | @fn _ _ _ vfs vcs k1 k2 k3 k4 =>
     split at h
     ·rename_i u S1 h1
      refine iY hP fun n => ?_
      have hRn:=hR.dr n
      have Mn:=fe x n
      have hp1:nY (x.w.at n) ((x.w.at n).alloc (.deferred (some []))) (.deferred (some [])):=gM _ _
      have Pk:=lX (x:=x.dr n) (k:=0) (F:=fun _=>False) (b := .defer) hRn (AP x.S) hp1 (by simp) (.inr (.inr (.inl ⟨rfl,by simp,trivial⟩)))
      have M1:=jB (x:=x.dr n) (k:=0) (F:=fun _=>False) (b := .defer) hRn (AP x.S) hp1
      generalize GL:(x.dr n).fresh ((x.w.at n).alloc (.deferred (some []))) x.S.length 0 (fun _=>False) .defer=x1 at Pk M1
      have XS:x1.S=x.S++[.defer]:=by rw[← GL]; exact zJ x.S _
      have Le:x1.w=(x.w.at n).alloc (.deferred (some [])):=by rw[← GL]; rfl
      have hμ1:x1.μ x.S.length=x.w.heap.size:=by rw[← GL]; exact if_pos rfl
      have LH:x1.S.length=x.S.length+1:=by rw[XS]; simp
      have hp2:nY x1.w (((x.w.at n).alloc (.deferred (some []))).alloc (.loop { state := .ready,pending:=none,fn:=b.fn,tmps:=a.tmps,params:=ps,assign:=Nl,body,defers:=x.w.heap.size })) (.loop { state := .ready,pending:=none,fn:=b.fn,tmps:=a.tmps,params:=ps,assign:=Nl,body,defers:=x.w.heap.size }):=by
       rw[Le]; exact gM _ _
      have Yx:DJ x1.S (x.S.length+1) := .inl LH.symm
      have M2:=jB (x:=x1) (k:=0) (F:=fun _=>False) (b := .loop ⟨.ready,none,fn,env,ps.toList,Nl,body,x.S.length⟩) Pk Yx hp2
      generalize C2:x1.fresh (((x.w.at n).alloc (.deferred (some []))).alloc (.loop { state := .ready,pending:=none,fn:=b.fn,tmps:=a.tmps,params:=ps,assign:=Nl,body,defers:=x.w.heap.size })) (x.S.length+1) 0 (fun _=>False) (.loop ⟨.ready,none,fn,env,ps.toList,Nl,body,x.S.length⟩)=x2 at M2
      have GC:x2.S=x.S++[.defer,.loop ⟨.ready,none,fn,env,ps.toList,Nl,body,x.S.length⟩]:=by
       rw[← C2]
       show eV x1.S (x.S.length+1) _=_
       rw[← LH,zJ,XS]
       simp
      have hw2:x2.w=((x.w.at n).alloc (.deferred (some []))).alloc (.loop { state := .ready,pending:=none,fn:=b.fn,tmps:=a.tmps,params:=ps,assign:=Nl,body,defers:=x.w.heap.size }):=by rw[← C2]; rfl
      have hμ2:x2.μ (x.S.length+1)=x.w.heap.size+1:=by
       rw[← C2]
       show (if _ then x1.w.heap.size else _)=_
       rw[if_pos rfl,Le]
       simp[World.at]
      have hμ2':x2.μ x.S.length=x.w.heap.size:=by
       rw[← C2]
       show (if _ then _ else x1.μ x.S.length)=_
       rw[if_neg (by omega),hμ1]
      have MM:=(Mn.trans M1).trans M2
      have hR2:Rel x2:=by
       have:=lX (x:=x1) (k:=0) (F:=fun _=>False) (b := .loop ⟨.ready,none,fn,env,ps.toList,Nl,body,x.S.length⟩) Pk Yx hp2 (by simp) (.inr (.inr (.inl ⟨rfl,by simp,?_⟩)))
       ·rw[C2] at this; exact this
       ·rw[C2]
        refine⟨rfl,rfl,Lj,he.mono MM,by simp,rfl,rfl,hμ2'.symm,?_⟩
        rw[GC]
        simp
      have QG:oN n0 x2 (x.S.length::ds) ({ target := .collected x.w.heap.size,args:=#[] }::a.defers):=by
       obtain⟨q1,q2,q3⟩:=hd.mono MM
       refine⟨by rw[bQ,hμ2',q1],List.nodup_cons.2 ⟨fun hm => ?_,q2⟩,fun id hid => ?_⟩
       ·have:=(aJ.1 (hd.2.2 _ hm).2.1).1
        omega
       ·rcases bI.1 hid with rfl | hid
        ·refine⟨tA,by rw[GC]; simp,?_⟩
         rw[hμ2',hw2]
         have:((x.w.at n).alloc (.deferred (some []))).heap.size=x.w.heap.size+1:=by simp[World.at]
         rw[(gM _ _).lt (by omega)]
         exact(gM (x.w.at n) _).new
        ·exact q3 id hid
      have kU:gn x2 (fs++[.xV (x.S.length+1)]++vs) (vfs++#[.func (.yield (x.w.heap.size+1)) #[] #[]]++vcs):=by
       have e1:gn x2 fs vfs:=gn.mono MM ⟨k1,k3⟩
       have e2:gn x2 vs vcs:=gn.mono MM ⟨k2,k4⟩
       refine kE (kE e1 ⟨rfl,fun j c hj => ?_⟩) e2
       cases j with
       | zero =>
        simp only[List.getElem?_cons_zero,aB] at hj
        subst hj
        show RV x2 _ (.func (.yield (x.w.heap.size+1)) #[] #[])
        rw[← hμ2]
        exact .xV (r:=⟨.ready,none,fn,env,ps.toList,Nl,body,x.S.length⟩) (by rw[GC]; simp)
       | succ j=>simp at hj
      obtain⟨⟨wm,cd,PI,XP⟩,aeU⟩:=hc _ _ _ _ _ h1 x2 _ hR2 GC kU
      obtain⟨es,hstep⟩:=Gn (P:=P) (b:=b) (a:=a) (k:=k) (cs:=cs) (w:=x.w.at n) (g:=f) (ps:=ps) (assign:=Nl) (body:=body) hk hro hv PI XP (hP.count g wm PI)
      refine⟨_,_,_,es,hstep,?_⟩
      have YC:=aeU (b.atR { a with defers:={ target := .collected x.w.heap.size,args:=#[] }::a.defers } (.inRangeFunc (x.w.heap.size+1)::k)) cs fun y u hp => ?_
      ·rw[hw2] at YC
       exact YC
      obtain⟨hyS,hyR,XG,-⟩:=hp
      subst hyS
      rw[finish_atR_inRangeFunc]
      have MY:=MM.trans XG
      split at h
      ·rename_i r hr
       split at h
       ·cases h
       ·rename_i adx
        have hμy:y.μ (x.S.length+1)=x.w.heap.size+1:=by
         rw[(XG.eR _ _ (show x2.S[x.S.length+1]? = some (.loop ⟨.ready,none,fn,env,ps.toList,Nl,body,x.S.length⟩) by rw[GC]; simp) rfl).1,hμ2]
        obtain⟨lo,l1,l2,l3,-⟩:=sV hyR hr
        rw[hμy] at l1
        obtain⟨z1,z2⟩:=BS hyR hr (by rw[hμy]; exact l1) .exhausted r.kB
        have hwz:(y.vp (x.S.length+1) (.loop { lo with state := .exhausted,pending:=r.kB }) (.loop { r with st := .exhausted,kB:=r.kB })).w=cv y.w (x.w.heap.size+1) (.loop { lo with state := .exhausted,pending:=r.kB }):=by
         show cv y.w (y.μ _) _=_
         rw[hμy]
        have hSz:(y.vp (x.S.length+1) (.loop { lo with state := .exhausted,pending:=r.kB }) (.loop { r with st := .exhausted,kB:=r.kB })).S=y.S.set (x.S.length+1) (.loop { r with st := .exhausted }):=rfl
        generalize y.vp (x.S.length+1) (.loop { lo with state := .exhausted,pending:=r.kB }) (.loop { r with st := .exhausted,kB:=r.kB })=z at z1 z2 hwz hSz
        have MZ:=MY.trans z2
        refine iY hP fun n2 => ?_
        have adu:(Instr.endLoop (x.w.heap.size+1)).run P (y.w.at n2) = .ok r.kB (z.w.at n2):=by
         have hg:=jw (P:=P) (w:=y.w.at n2) (show (y.w.at n2).heap[x.w.heap.size+1]? = _ from l1) (by simp)
         have hs:=kF (P:=P) (w:=y.w.at n2) (o := .loop { lo with state := .exhausted,pending:=r.kB }) (show (y.w.at n2).heap[x.w.heap.size+1]? = _ from l1) (by simp)
         have hb:(lo.state==LoopState.busy)=false:=by rw[l2]; simpa using adx
         simp only[Instr.endLoop,Instr.getLoop,Sem.run_bind,hg,Result.andThen_ok,Sem.run_pure,hb,aF,if_false,hs,l3]
         rw[hwz]
         rfl
        obtain⟨XX,Ai⟩:=I5 (P:=P) (b:=b) (a:={ a with defers:={ target := .collected x.w.heap.size,args:=#[] }::a.defers }) (k:=k) (cs:=cs) adu
        refine⟨_,_,_,XX,Ai,Hi ?_ n2⟩
        have rP:=hn z { a with defers:={ target := .collected x.w.heap.size,args:=#[] }::a.defers } (x.S.length::ds)
        split at h
        ·rename_i hpd
         simp only[aB,ay] at h
         obtain⟨rfl,rfl,rfl⟩:=h
         rw[hpd]
         exact rP hSz z1 MZ (he.mono MZ) ((QG.mono XG).mono z2)
        ·rename_i hpd
         simp only[aB,ay] at h
         obtain⟨rfl,rfl,rfl⟩:=h
         rw[hpd]
         exact rP hSz z1 MZ (he.mono MZ) ((QG.mono XG).mono z2) k
        ·rename_i e' hpd
         simp only[aB,ay] at h
         obtain⟨rfl,rfl,rfl⟩:=h
         rw[hpd]
         exact rP hSz z1 MZ (he.mono MZ) ((QG.mono XG).mono z2) k rfl
        ·cases h
      ·cases h
     ·cases h
   ·cases h
end Go.Di
end
section
namespace Go.Di
open Go Go.Conc Go.Co
variable {P:Program} {af:Machine→Trace→Prop} {ty:ir} {x:Cx} {aM:bV} {call:bP} {yf:fI}
theorem ow (h:∀ id ops draw,sC P af ty aM call yf id ops draw):∀ c,BP P af ty aM call yf c:=by
 intro c
 induction c with
 | region id ops draw=>exact h id ops draw
 | seq a b iha ihb=>exact⟨iha,ihb⟩
 | cond o a b iha ihb=>exact⟨iha,ihb⟩
 | block id c ih=>exact ih
 | loop c ih=>exact ih
 | scope c ih=>exact ih
 | _=>trivial
def Ns (tmps:Array Value):ResultVar→Sem Value
 | .tmp t=>pure (tmps.getD t undef)
 | .cell a t=>do loadVar t (← asAddr (tmps.getD a undef))
theorem KA (fn:Func) (tmps:Array Value):results fn tmps=(do let vs ← fn.results.mapM (Ns tmps); pure (if h:vs.size=1 then vs[0] else .tuple vs)):=by
 have:(fun | .tmp t=>pure (tmps.getD t undef) | .cell a t=>do loadVar t (← asAddr (tmps.getD a undef)):ResultVar→Sem Value)=Ns tmps:=by
  funext r; cases r<;>rfl
 rw[← this]
 rfl
theorem FU (eY:j4 P ty) {env:List DV} {tmps:Array Value} (hR:Rel x) (he:gn x env tmps):∀ {rs:List ResultVar} {l:List DV},si ty env x.S rs=some l →
  ∃ vs:List Value,(rs.mapM (Ns tmps)).run P x.w = .ok vs x.w∧gn x l vs.toArray
 | [],l,h=>by
  simp only[si,aB] at h
  subst h
  exact⟨[],rfl,rfl,by simp⟩
 | .tmp t::rs,l,h=>by
  simp only[si,ai] at h
  obtain⟨l',h1,rfl⟩:=h
  obtain⟨vs,h2,h3,h4⟩:=FU eY hR he h1
  have hv:RV x (env.getD t bh) (tmps.getD t undef):=vE (a:=⟨tmps,[]⟩) he (.tmp t) _ rfl
  refine⟨tmps.getD t undef::vs,by simp only[List.mapM_cons,Ns,Sem.run_bind,Sem.run_pure,Result.andThen_ok,h2],by simpa using h3,fun j c hc => ?_⟩
  cases j with
  | zero=>simp only[List.getElem?_cons_zero,aB] at hc; subst hc; exact hv
  | succ j=>simpa [bg] using h4 j c (by simpa using hc)
 | .cell a t::rs,l,h=>by
  unfold si at h
  split at h
  ·rename_i d l' h0 h1
   cases h
   obtain⟨vs,h2,h3,h4⟩:=FU eY hR he h1
   have hv:RV x (env.getD a bh) (tmps.getD a undef):=vE (a:=⟨tmps,[]⟩) he (.tmp a) _ rfl
   obtain⟨v,h5,h6⟩:=Ip eY hR hv h0
   have hrun:(Ns tmps (.cell a t)).run P x.w = .ok v x.w:=by
    show (do loadVar t (← asAddr (tmps.getD a undef)):Sem Value).run P x.w=_
    generalize tmps.getD a undef=u at hv h5
    unfold kg at h0
    generalize env.getD a bh=da at hv h0
    split at h0
    ·cases hv; simpa [Instr.loadAt,Instr.sureAddr,asAddr] using h5
    ·cases hv; simpa [Instr.loadAt,Instr.sureAddr,asAddr] using h5
    ·split at h0
     ·rename_i hop
      obtain⟨hS,EW⟩:=lD hop
      cases hv with
      | fC Ax _ hA =>
       rw[hS] at Ax
       cases Ax
       rw[hA EW] at h5 ⊢
       simpa [Instr.loadAt,Instr.sureAddr,asAddr] using h5
     ·cases h0
    ·cases h0
   refine⟨v::vs,by simp only[List.mapM_cons,Sem.run_bind,hrun,Result.andThen_ok,h2,Sem.run_pure],by simpa using h3,fun j c hc => ?_⟩
   cases j with
   | zero=>simp only[List.getElem?_cons_zero,aB] at hc; subst hc; exact h6
   | succ j=>simpa [bg] using h4 j c (by simpa using hc)
  ·cases h
theorem CC (eY:j4 P ty) {fn:Func} {env:List DV} {tmps:Array Value} (hR:Rel x) (he:gn x env tmps) {l:List DV} (h:si ty env x.S fn.results.toList=some l) :
  ∃ v,(results fn tmps).run P x.w = .ok v x.w∧RV x (oneOf l) v:=by
 obtain⟨vs,h1,h2,h3⟩:=FU eY hR he h
 have hm:(fn.results.mapM (Ns tmps)).run P x.w = .ok vs.toArray x.w:=by
  rw[Array.mapM_eq_mapM_toList]
  simp only[Sem.run_map,h1,Result.andThen_ok]
 refine⟨if h:vs.toArray.size=1 then vs.toArray[0] else .tuple vs.toArray,?_,?_⟩
 ·rw[KA]
  simp only[Sem.run_bind,hm,Result.andThen_ok,Sem.run_pure]
 ·match l,vs,h2,h3 with
  | [],[],_,_=>exact .gd rfl (by simp)
  | [d],[v],_,h3=>exact h3 0 d rfl
  | d::e::l,v::u::vs,h2,h3=>exact .gd (by simpa using h2) h3
  | [],_::_,h2,_=>simp at h2
  | [_],[],h2,_=>simp at h2
  | [_],_::_::_,h2,_=>simp at h2
  | _::_::_,[],h2,_=>simp at h2
  | _::_::_,[_],h2,_=>simp at h2
theorem SM {b:Frame} {a:Act} {todo:List Item} {c:Frame} {cs:List Frame} {w:World} {fn:Func} {v:Value} (hn:b.kind = .normal) (hd:a.defers=[]) (hf:P.funcs[b.fn]? = some fn) (hr:(results fn a.tmps).run P w = .ok v w) :
  ∃ es,stepG P true (G { b.at a todo with mode := .returning } (c::cs)) w = .go (G (c.finish v) cs) w es:=by
 simp only[G,stepG,unwind,doReturn,Frame.at,hn,hd,hf,Sem.runT_eq,hr,GStep.after]
 exact⟨_,rfl⟩
theorem Mo {b:Frame} {a:Act} {todo:List Item} {cs:List Frame} {w w':World} {r:Nat} {ds:List Deferred} (hd:a.defers={ target := .collected r,args:=#[] }::ds) (hr:(Instr.takeDeferred r).run P w = .ok [] w') :
  ∃ es,stepG P true (G { b.at a todo with mode := .returning } cs) w = .go (G { b.at { a with defers:=ds } todo with mode := .returning } cs) w' es:=by
 simp only[G,stepG,unwind,Frame.at,hd,Sem.runT_eq,hr,GStep.after,List.nil_append]
 exact⟨_,rfl⟩
theorem L6 {x0:Cx} (M:bZ x0 x) (hR:Rel x) {id:Nat} (hid:x0.S.length≤id) (hS:x.S[id]? = some .defer) :
  Rel { x with w:=cv x.w (x.μ id) (.deferred none) }∧bZ x0 { x with w:=cv x.w (x.μ id) (.deferred none) }∧∀ d v,RV x d v→RV { x with w:=cv x.w (x.μ id) (.deferred none) } d v:=by
 have iV:=aZ hS (show DB.defer ≠ .none by simp)
 have acd:∀ i,Live x0.S i→i≠id:=by
  rintro i ⟨c,hc,-⟩ rfl
  have:=(aJ.1 hc).1
  omega
 have RB:x0.w.heap.size≤x.μ id:=by
  rcases M.live id iV with ⟨h,-⟩ | h
  ·exact absurd rfl (acd id h)
  ·exact h
 have pG:∀ b,b≠x.μ id→(cv x.w (x.μ id) (.deferred none)).heap[b]? = x.w.heap[b]? := fun b hb=>gN _ _ _ hb
 have Jw:∀ b o,x.Fz b o→(cv x.w (x.μ id) (.deferred none)).cell? ⟨b,o,none⟩=x.w.cell? ⟨b,o,none⟩:=fun b o h=>cell_of_block (pG b (by rintro rfl; exact hR.RE hS rfl o h)) o
 have Pa:∀ d v,RV x d v→RV { x with w:=cv x.w (x.μ id) (.deferred none) } d v:=by
  intro d v h
  induction h with
  | val h=>exact .val h
  | agg h _ ih=>exact .agg h ih
  | gd h _ ih=>exact .gd h ih
  | sl hv _ h1 h2 h3 hsp h4 ih=>exact .sl (View.mono (x:=x) (y:={ x with w:=cv x.w (x.μ id) (.deferred none) }) (fun b o h=>⟨h,Jw b o h⟩) hv) ih h1 h2 h3 hsp h4
  | ptr h=>exact .ptr h
  | eL hv _ ih=>exact .eL (View.mono (x:=x) (y:={ x with w:=cv x.w (x.μ id) (.deferred none) }) (fun b o h=>⟨h,Jw b o h⟩) hv) ih
  | fn h1 h2 _ _ Na O7=>exact .fn h1 h2 Na O7
  | map h=>exact .map h
  | xV h=>exact .xV h
  | jD h h1 h2=>exact .jD h h1 h2
  | fC h h1 h2=>exact .fC h h1 h2
 have hne:∀ i b,x.S[i]? = some b→b ≠ .none→i≠id→x.μ i≠x.μ id:=fun i b hi hb h e=>h (hR.inj i id (aZ hi hb) iV e)
 obtain⟨ob,hob,-⟩:=hR.eR id _ hS rfl
 refine⟨⟨fun i l hl => ?_,fun i e s n hl => ?_,fun i b hb P5 => ?_,hR.inj,fun b o h => ?_,hR.sep,hR.oF,fun i e s l z hl => ?_⟩,⟨?_,M.env,fun b o h=>⟨(M.fz b o h).1,?_⟩,M.Lc,fun b hb hn => ?_,M.len,M.cells,fun i b hb P5 => ?_,M.eA,M.live,M.ops⟩,Pa⟩
 ·obtain⟨arr,e,h1,h2,h3⟩:=hR.cells i l hl
  exact⟨arr,e,(pG _ (hne i _ hl (by simp) (by rintro rfl; rw[hS] at hl; cases hl))).trans h1,h2,fun j c hc=>Pa _ _ (h3 j c hc)⟩
 ·obtain⟨arr,h1,h2⟩:=hR.eA i e s n hl
  exact⟨arr,(pG _ (hne i _ hl (by simp) (by rintro rfl; rw[hS] at hl; cases hl))).trans h1,h2⟩
 ·by_cases h:i=id
  ·subst h
   rw[hS] at hb
   cases hb
   exact⟨_,xM _ _ _ _ hob,trivial⟩
  ·obtain⟨o,h1,h2⟩:=hR.eR i b hb P5
   refine⟨o,(pG _ (hne i _ hb (gG P5) h)).trans h1,?_⟩
   cases b<;>cases o<;>simp only[sD] at h2 ⊢<;>first | exact h2 | trivial | (obtain⟨q1,q2,q3,q4,q5⟩:=h2; exact⟨q1,q2,q3,⟨q4.1,fun j c hc=>Pa _ _ (q4.2 j c hc)⟩,q5⟩)
 ·obtain⟨v,hv⟩:=hR.x7 b o h
  exact⟨v,(Jw b o h).trans hv⟩
 ·obtain⟨arr,h1,h2,h3,h4,h5,h6⟩:=hR.ops i e s l z hl
  exact⟨arr,(pG _ (hne i _ hl (by simp) (by rintro rfl; rw[hS] at hl; cases hl))).trans h1,h2,h3,h4,fun j c hc=>⟨(h5 j c hc).1,Pa _ _ (h5 j c hc).2⟩,h6⟩
 ·show _≤(cv x.w _ _).heap.size
  simp only[cv,qT]
  exact M.size
 ·exact(Jw b o (M.fz b o h).1).trans (M.fz b o h).2
 ·exact(pG b (by omega)).trans (M.old b hb hn)
 ·obtain⟨q1,q2,q3⟩:=M.eR i b hb P5
  refine⟨q1,q2,fun hd=>(pG _ ?_).trans (q3 hd)⟩
  rw[← q1]
  obtain⟨b',q4,q5⟩:=q2
  exact hne i b' q4 (gG (sW q5).2) (acd i (aZ hb (gG P5)))
theorem B6 (hP:Plain P) (eY:j4 P ty) {x0:Cx} {b:Frame} {todo:List Item} {c:Frame} {cs:List Frame} {fn:Func} {env:List DV} {l:List DV} (hb:b.kind = .normal) (hf:P.funcs[b.fn]? = some fn) {Sr:ax} :
  ∀ (ds:List Nat) {a:Act} {x:Cx},x.S=Sr→Rel x→bZ x0 x→gn x env a.tmps→oN x0.S.length x ds a.defers→si ty env Sr fn.results.toList=some l →
   (∀ y v,y.S=Sr→Rel y→bZ x0 y→RV y (oneOf l) v→iz P af () (G (c.finish v) cs) y.w)→iz P af () (G { b.at a todo with mode := .returning } (c::cs)) x.w
 | [],a,x,hS,hR,hM,he,hd,hr,hn=>by
  refine iY hP fun n => ?_
  have Jy:a.defers=[]:=hd.1
  obtain⟨v,h1,h2⟩:=CC (x:=x.dr n) eY (hR.dr n) (he.mono (fe x n)) (l:=l) (by show si ty env x.S _=_; rw[hS]; exact hr)
  obtain⟨es,hst⟩:=SM (P:=P) (b:=b) (a:=a) (todo:=todo) (c:=c) (cs:=cs) hb Jy hf h1
  exact⟨_,_,_,es,hst,hn (x.dr n) v hS (hR.dr n) (hM.trans (fe x n)) h2⟩
 | id::ds,a,x,hS,hR,hM,he,hd,hr,hn=>by
  obtain⟨q1,q2,q3⟩:=hd
  obtain⟨r1,r2,r3⟩:=q3 id (by simp)
  refine iY hP fun n => ?_
  have mP:=hR.dr n
  have XU:=hM.trans (fe x n)
  obtain⟨t1,t2,t3⟩:=L6 (x:=x.dr n) XU mP r1 r2
  have hg:=jw (P:=P) (w:=x.w.at n) (show (x.w.at n).heap[x.μ id]? = _ from r3) (by simp)
  have hs:=kF (P:=P) (w:=x.w.at n) (o := .deferred none) (show (x.w.at n).heap[x.μ id]? = _ from r3) (by simp)
  have LG:(Instr.takeDeferred (x.μ id)).run P (x.w.at n) = .ok [] (cv (x.w.at n) (x.μ id) (.deferred none)):=by
   simp only[Instr.takeDeferred,Sem.run_bind,hg,Result.andThen_ok,hs,Sem.run_pure]
  obtain⟨es,hst⟩:=Mo (P:=P) (b:=b) (a:=a) (todo:=todo) (cs:=c::cs) (ds:=ds.map fun id=>{ target := .collected (x.μ id),args:=#[] }) (by rw[q1]; rfl) LG
  refine⟨_,_,_,es,hst,?_⟩
  have Ur:=List.nodup_cons.1 q2
  exact B6 hP eY hb hf ds (x:={ x.dr n with w:=cv (x.w.at n) (x.μ id) (.deferred none) }) (a:={ a with defers:=ds.map fun id=>{ target := .collected (x.μ id),args:=#[] } }) hS t1 t2 ⟨he.1,fun j c hc=>t3 _ _ (RV.mono (fe x n) (he.2 j c hc))⟩
   ⟨rfl,Ur.2,fun i hi=>by
    obtain⟨u1,u2,u3⟩:=q3 i (by simp[hi])
    have hne:x.μ i≠x.μ id:=fun e=>Ur.1 (hR.inj i id (aZ u2 (by simp)) (aZ r2 (by simp)) e▸hi)
    exact⟨u1,u2,(gN _ _ _ hne).trans u3⟩⟩ hr hn
theorem Ud (hP:Plain P) (eY:j4 P ty) (hc:jr P af call) (je:∀ id ops draw,sC P af ty aM call yf id ops draw) {L:Nat} {f:FuncId} {fn:Func} (hf:P.funcs[f]? = some fn) {args:List DV} {S S':ax} {v:DV} (h:uW P ty aM call yf L f fn args S=some (v,S'))
  {vals:Array Value} (hR:Rel x) (hS:x.S=S) (ha:gn x args vals):eH P af x f vals fun y u=>y.S=S'∧Rel y∧bZ x y∧RV y v u:=by
 subst hS
 unfold uW at h
 split at h
 ·rename_i c hb
  refine⟨⟨fn,c,hf,hb⟩,fun fr cs hn => ?_⟩
  rw[enter_at vals hf hb,← Frame.atR_of_none (b:=base f) rfl]
  have he:gn x (args++List.replicate (fn.ntmps-args.length) bh) (vals++Array.replicate (fn.ntmps-vals.size) undef):=by
   refine kE ha ⟨by simp[ha.1],fun j c hc => ?_⟩
   rw[nK] at hc
   split at hc
   ·rename_i hj
    cases hc
    have:j<fn.ntmps-vals.size:=by rw[ha.1]; exact hj
    have e:(Array.replicate (fn.ntmps-vals.size) undef).getD j undef=undef:=by simp[bg,this]
    rw[e]
    exact .val rfl
   ·cases hc
  have key:∀ e aD S1,ct P ty aM call yf L f false c (args++List.replicate (fn.ntmps-args.length) bh) x.S=some (e,aD,S1)→(e = .normal∨e = .ret)→(si ty aD S1 fn.results.toList).map (fun l=>(oneOf l,S1))=some (v,S') →
    iz P af () (G ((base f).atR { tmps:=vals++Array.replicate (fn.ntmps-vals.size) undef,defers:=[] } [.code c]) (fr::cs)) x.w:=by
   intro e aD S1 h1 he1 h2
   simp only[ai,ay] at h2
   obtain⟨l,h3,rfl,rfl⟩:=h2
   refine oA (n0:=x.S.length) (ds:=[]) (b:=base f) (cs:=fr::cs) (iJ:=false) hP hc (by simp[base]) rfl (fun _=>rfl) c (ow je c) h1 hR he (uj _ _) (ak _) fun y a' gR q1 q2 q3 q4 q5 => ?_
   have iU:∀ todo,iz P af () (G { (base f).at a' todo with mode := .returning } (fr::cs)) y.w:=fun todo =>
    B6 hP eY (x0:=x) (b:=base f) (env:=aD) (l:=l) (Sr:=S1) rfl hf gR q1 q2 q3 q4 q5 h3 fun z u r1 r2 r3 r4=>hn z u ⟨r1,r2,r3,r4⟩
   rcases he1 with rfl | rfl
   ·show iz P af () (G ((base f).atR a' []) (fr::cs)) y.w
    rw[Frame.atR_of_none (b:=base f) rfl]
    exact dY hP (fun w=>⟨_,stepG_end⟩) (iU _)
   ·intro k'
    rw[Frame.atR_of_none (b:=base f) rfl]
    exact dY hP (fun w=>⟨_,stepG_ret'⟩) (iU _)
  split at h
  ·rename_i aD S1 h1
   exact key _ _ _ h1 (.inl rfl) h
  ·rename_i aD S1 h1
   exact key _ _ _ h1 (.inr rfl) h
  ·cases h
 ·cases h
theorem Mc:∀ {ts:List Tmp} {ds:List DV} {vs:List Value} {env:List DV} {tmps:Array Value},gn x env tmps→vs.length=ds.length→(∀ (j:Nat) (c:DV),ds[j]? = some c→RV x c (vs.getD j undef)) →
  gn x (Bo env (ts.zip ds)) ((ts.zip vs).foldl (fun tmps (p:Tmp×Value)=>tmps.setIfInBounds p.1 p.2) tmps)
 | [],ds,vs,env,tmps,h,_,_=>by simpa [Bo] using h
 | t::ts,[],[],env,tmps,h,_,_=>by simpa [Bo] using h
 | t::ts,[],_::_,env,tmps,h,hl,_=>by simp at hl
 | t::ts,_::_,[],env,tmps,h,hl,_=>by simp at hl
 | t::ts,d::ds,v::vs,env,tmps,h,hl,hv=>by
  simp only[List.zip_cons_cons,Bo,List.foldl_cons]
  exact Mc (Mf h (by simpa using hv 0 d rfl)) (by simpa using hl) fun j c hc=>by simpa using hv (j+1) c (by simpa using hc)
theorem SP {b:Frame} {a:Act} {k:List Item} {cs:List Frame} {w w':World} {l:Nat} (hk:b.kind ≠ .early) (hr:b.roundOf=some l) (h:(Instr.beginRound l).run P w = .ok () w') :
  ∃ es,stepG P true (G (b.atR a (.beginRound::k)) cs) w = .go (G (b.atR a k) cs) w' es:=by
 have pK:(b.kind==CallKind.early)=false:=by simpa using hk
 simp only[G,stepG,stepG.exec,Frame.atR,hr,stepG.apply,Option.elim_some,if_true,Sem.runT_eq,Sem.run_bind,h,Result.andThen_ok,Sem.run_pure,pK,GStep.after,Frame.finish]
 exact⟨_,rfl⟩
theorem Gl {b:Frame} {a:Act} {c:Frame} {cs:List Frame} {w w':World} {l:Nat} {v:Value} (hn:b.kind = .normal) (hr:b.roundOf=some l) (h:(Instr.endRound l none).run P w = .ok v w') :
  ∃ es,stepG P true (G (b.atR a []) (c::cs)) w = .go (G (c.finish v) cs) w' es:=by
 simp only[G,stepG,stepG.exec,Frame.atR,hr,Sem.runT_eq,h,GStep.after,doReturn,hn]
 exact⟨_,rfl⟩
theorem Gk {b:Frame} {a:Act} {k:List Item} {c:Frame} {cs:List Frame} {w w':World} {l:Nat} {v:Value} (hn:b.kind = .normal) (hr:b.roundOf=some l) (h:(Instr.endRound l (some .ret)).run P w = .ok v w') :
  ∃ es,stepG P true (G (b.atR a (.code .ret::k)) (c::cs)) w = .go (G (c.finish v) cs) w' es:=by
 simp only[G,stepG,stepG.exec,Frame.atR,hr,Sem.runT_eq,h,GStep.after,doReturn,hn]
 exact⟨_,rfl⟩
theorem Du {b:Frame} {a:Act} {k:List Item} {c:Frame} {cs:List Frame} {w w':World} {l id:Nat} {v:Value} (hn:b.kind = .normal) (hr:b.roundOf=some l) (he:exitTo id k=none) (h:(Instr.endRound l (some (.exit id))).run P w = .ok v w') :
  ∃ es,stepG P true (G (b.atR a (.code (.exit id)::k)) (c::cs)) w = .go (G (c.finish v) cs) w' es:=by
 simp only[G,stepG,stepG.exec,Frame.atR,hr,he,Option.elim_none,Sem.runT_eq,h,GStep.after,doReturn,hn]
 exact⟨_,rfl⟩
theorem N4 (hP:Plain P) (hc:jr P af call) (je:∀ id ops draw,sC P af ty aM call yf id ops draw) {L:Nat}:wT P af (JY P ty aM call yf L):=by
 intro id args S v S' h x vals hR hS ha
 subst hS
 unfold JY at h
 split at h
 ·rename_i r hr
  split at h
  ·rename_i hlen
   obtain⟨lo,l1,l2,l3,l4,l5,l6,l7,l8,-⟩:=sV hR hr
   refine⟨lo,l1,by rw[l6]; simpa [ha.1] using hlen,fun fr cs hn => ?_⟩
   have GP:∀ tmps,Frame.round (x.μ id) lo.fn tmps lo.assign lo.body .normal=({ (default:Frame) with fn:=r.fn,kind := .normal,roundOf:=some (x.μ id) }:Frame).atR { tmps:=tmps,defers:=[] } [.code r.assign,.beginRound,.code r.body]:=by
    intro tmps
    simp[Frame.round,Frame.atR,l4,l7,l8]
   rw[GP]
   generalize hB:({ (default:Frame) with fn:=r.fn,kind := .normal,roundOf:=some (x.μ id) }:Frame)=B
   have XV:B.kind = .normal:=by rw[← hB]
   have hBf:B.fn=r.fn:=by rw[← hB]
   have hBr:B.roundOf=some (x.μ id):=by rw[← hB]
   have hBe:B.kind ≠ .early:=by rw[XV]; simp
   have he:gn x (Bo r.env (r.params.zip args)) ((lo.params.zip vals).foldl (fun tmps (t,a)=>tmps.setIfInBounds t a) lo.tmps):=by
    have:=Mc (ts:=r.params) (ds:=args) (vs:=vals.toList) l5 (by simpa using ha.1) fun j c hc=>by simpa [bg,aN] using ha.2 j c hc
    rw[l6,← Array.foldl_toList]
    simpa using this
   split at h
   ·rename_i Bf S1 h1
    split at h
    ·rename_i r1 xX
     split at h
     ·rename_i hst
      split at h
      ·rename_i e afQ S2 h2
       split at h
       ·rename_i r2 Pb
        refine oA (n0:=0) (ds:=[]) (b:=B) (cs:=fr::cs) (iJ:=true) hP hc hBe hBf (by simp) r.assign (ow je _) h1 hR he (uj _ _) (gh _) fun y a1 ds1 q1 q2 q3 q4 q5 => ?_
        subst q1
        obtain⟨XC,m1,m2,m3,-⟩:=sV q2 xX
        have hμy:y.μ id=x.μ id:=(q3.eR id _ hr rfl).1
        refine iY hP fun n => ?_
        obtain⟨z1,z2⟩:=BS (q2.dr n) (id:=id) xX (lo:=XC) m1 .busy r1.kB
        have aeM:({ XC with state := .busy,pending:=r1.kB }:Loop)={ XC with state := .busy }:=by rw[← m3]
        rw[aeM] at z1 z2
        have ae0:(Instr.beginRound (x.μ id)).run P (y.w.at n) = .ok () (cv (y.w.at n) (x.μ id) (.loop { XC with state := .busy })):=by
         have hg:=jw (P:=P) (w:=y.w.at n) (show (y.w.at n).heap[x.μ id]? = _ from(by rw[← hμy]; exact m1)) (by simp)
         have hs:=kF (P:=P) (w:=y.w.at n) (o := .loop { XC with state := .busy }) (show (y.w.at n).heap[x.μ id]? = _ from(by rw[← hμy]; exact m1)) (by simp)
         have PC:XC.state = .ready:=by rw[m2]; exact hst
         simp only[Instr.beginRound,Instr.getLoop,Sem.run_bind,hg,Result.andThen_ok,Sem.run_pure,hs,PC]
        obtain⟨es,hstep⟩:=SP (P:=P) (a:=a1) (k:=[.code r.body]) (cs:=fr::cs) hBe hBr ae0
        refine⟨_,_,_,es,hstep,?_⟩
        generalize hz:(y.dr n).vp id (.loop { XC with state := .busy }) (.loop { r1 with st := .busy,kB:=r1.kB })=z at z1 z2
        have hzS:z.S=y.S.set id (.loop { r1 with st := .busy }):=by rw[← hz]; rfl
        have hzw:z.w=cv (y.w.at n) (x.μ id) (.loop { XC with state := .busy }):=by
         rw[← hz]
         show cv (y.w.at n) (y.μ id) _=_
         rw[hμy]
        rw[← hzw]
        have MYZ:=(fe y n).trans z2
        rw[← hzS] at h2
        refine oA (n0:=0) (ds:=ds1) (b:=B) (cs:=fr::cs) (k:=[]) (iJ:=true) hP hc hBe hBf (by simp) r.body (ow je _) h2 z1 (q4.mono MYZ) (q5.mono MYZ) (gh _) fun u a2 ds2 p1 p2 p3 p4 p5 => ?_
        subst p1
        obtain⟨YT,n1,-⟩:=sV p2 Pb
        have hμu:u.μ id=x.μ id:=by
         have:=(p3.eR id _ (show z.S[id]? = some (.loop { r1 with st := .busy }) by rw[hzS,ej xX,if_pos rfl]) rfl).1
         rw[this,← hz]
         exact hμy
        have MXU:=(q3.trans MYZ).trans p3
        have fin:∀ st pd,∀ n2,(Instr.endRound (x.μ id) pd).run P (u.w.at n2) = .ok (.bool pd.isNone) (cv (u.w.at n2) (x.μ id) (.loop { YT with state:=if pd.isNone then .ready else .done,pending:=pd }))→st=(if pd.isNone then LoopState.ready else .done)→S'=u.S.set id (.loop { r2 with st:=st,kB:=pd })→v = .val (.bool pd.isNone) →
          iz P af () (G (fr.finish (.bool pd.isNone)) cs) (cv (u.w.at n2) (x.μ id) (.loop { YT with state:=if pd.isNone then .ready else .done,pending:=pd })):=by
         intro st pd n2 _ P3 Ax hv
         obtain⟨y1,y2⟩:=BS (p2.dr n2) (id:=id) Pb (lo:=YT) n1 st pd
         have:=hn ((u.dr n2).vp id (.loop { YT with state:=st,pending:=pd }) (.loop { r2 with st:=st,kB:=pd })) (.bool pd.isNone) ⟨Ax.symm,y1,(MXU.trans (fe u n2)).trans y2,by rw[hv]; exact .val rfl⟩
         have e:((u.dr n2).vp id (.loop { YT with state:=st,pending:=pd }) (.loop { r2 with st:=st,kB:=pd })).w=cv (u.w.at n2) (x.μ id) (.loop { YT with state:=if pd.isNone then .ready else .done,pending:=pd }):=by
          show cv (u.w.at n2) (u.μ id) _=_
          rw[hμu,P3]
         rw[e] at this
         exact this
        have sj:∀ pd n2,(Instr.endRound (x.μ id) pd).run P (u.w.at n2) = .ok (.bool pd.isNone) (cv (u.w.at n2) (x.μ id) (.loop { YT with state:=if pd.isNone then .ready else .done,pending:=pd })):=by
         intro pd n2
         have hg:=jw (P:=P) (w:=u.w.at n2) (show (u.w.at n2).heap[x.μ id]? = _ from(by rw[← hμu]; exact n1)) (by simp)
         have hs:=fun o=>kF (P:=P) (w:=u.w.at n2) (o:=o) (show (u.w.at n2).heap[x.μ id]? = _ from(by rw[← hμu]; exact n1)) (by simp)
         simp only[Instr.endRound,Instr.getLoop,Sem.run_bind,hg,Result.andThen_ok,Sem.run_pure,hs]
        cases e with
        | normal =>
         simp only[aB,ay] at h
         refine iY hP fun n2 => ?_
         obtain⟨XX,Ai⟩:=Gl (P:=P) (a:=a2) (c:=fr) (cs:=cs) XV hBr (sj none n2)
         exact⟨_,_,_,XX,Ai,fin .ready none n2 (sj none n2) rfl h.2.symm h.1.symm⟩
        | ret =>
         simp only[aB,ay] at h
         intro k'
         refine iY hP fun n2 => ?_
         obtain⟨XX,Ai⟩:=Gk (P:=P) (a:=a2) (k:=k') (c:=fr) (cs:=cs) XV hBr (sj (some .ret) n2)
         exact⟨_,_,_,XX,Ai,fin .done (some .ret) n2 (sj (some .ret) n2) rfl h.2.symm h.1.symm⟩
        | exit i =>
         simp only[aB,ay] at h
         intro k' pK
         refine iY hP fun n2 => ?_
         obtain⟨XX,Ai⟩:=Du (P:=P) (a:=a2) (k:=k') (c:=fr) (cs:=cs) XV hBr pK (sj (some (.exit i)) n2)
         exact⟨_,_,_,XX,Ai,fin .done (some (.exit i)) n2 (sj (some (.exit i)) n2) rfl h.2.symm h.1.symm⟩
       ·cases h
      ·cases h
     ·cases h
    ·cases h
   ·cases h
  ·cases h
 ·cases h
end Go.Di
end
