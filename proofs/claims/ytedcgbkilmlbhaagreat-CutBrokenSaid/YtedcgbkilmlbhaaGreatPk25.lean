import Derived.Test.YtedcgbkilmlbhaaGreatPk24
import Derived.Orders
section
namespace Go.Di
open Go Go.Conc Go.Co
variable {P:Program} {af:Machine→Trace→Prop} {ty:eV} {x:Cx} {aD:bn} {call:aW} {yf:dH}
theorem Fq {b:Frame} {a:Act} {k:List Item} {cs:List Frame} {w w':World} {l:Nat} {jump:Option Code} (h:(Instr.endLoop l).run P w = .ok jump w') :
  ∃ es,stepG P true (G (b.atR a (.endRangeFunc l::k)) cs) w = .go (G (b.atR a ((jump.map Item.code).toList++k)) cs) w' es:=by
 simp only[G,stepG,stepG.exec,Frame.atR,Sem.runT_eq,h,GStep.after]
 exact⟨_,rfl⟩
theorem o8 (hR:Rel x) {id:Nat} {r:Ik} (h:x.S[id]? = some (.loop r)):∃ lo,x.w.heap[x.μ id]? = some (.loop lo)∧lo.state=r.st∧lo.pending=r.iu∧lo.fn=r.fn∧dR x r.env lo.tmps∧lo.params=r.params.toArray∧lo.assign=r.assign∧lo.body=r.body∧lo.defers=x.μ r.dfr∧x.S[r.dfr]? = some .defer:=by
 obtain⟨o,h1,h2⟩:=hR.c9 id _ h rfl
 cases o<;>simp only[oL] at h2
 exact⟨_,h1,h2⟩
theorem yz (hR:Rel x) {id:Nat} {r:Ik} (h:x.S[id]? = some (.loop r)) {lo:Loop} (K9:x.w.heap[x.μ id]? = some (.loop lo)) (st:LoopState) (pd:Option Code) :
  Rel (x.rA id (.loop { lo with state:=st,pending:=pd }) (.loop { r with st:=st,iu:=pd }))∧bk x (x.rA id (.loop { lo with state:=st,pending:=pd }) (.loop { r with st:=st,iu:=pd })):=by
 obtain⟨lo',h1,h2,h3,h4,h5,h6,h7,h8,h9,qZ⟩:=o8 hR h
 rw[K9] at h1
 cases h1
 have M:=vp (x:=x) (o := .loop { lo with state:=st,pending:=pd }) (b := .loop { r with st:=st,iu:=pd }) hR h rfl (by simp)
 refine⟨Ey hR h rfl (by simp) ⟨rfl,rfl,h4,h5.mono M,h6,h7,h8,h9,?_⟩,M⟩
 show (x.S.set _ _)[_]? = _
 rw[cI h,if_neg (by rintro e; rw[e,h] at qZ; cases qZ)]
 exact qZ
theorem xy (S:ak):AJ S S.length := .inl rfl
theorem wm (S:ak) (b:DB):de S S.length b=S++[b]:=by unfold de; rw[if_neg (by omega)]
set_option maxHeartbeats 1000000 in
theorem lB (hP:Plain P) (hc:gq P af call) {L:Nat} {fn:FuncId} {fC:Bool} {n0:Nat} {b:Frame} {cs:List Frame} (hk:b.kind ≠ .early) (HK:b.fn=fn) (PZ:fC=false→b.roundOf=none) :
  ∀ (c:Code),yw P af ty aD call yf c→∀ {k:List Item} {env ay:List DV} {S':ak} {e:DX} {a:Act} {x:Cx} {ds:List Nat},bC P ty aD call yf L fn fC c env x.S=some (e,ay,S')→Rel x→dR x env a.tmps→lK n0 x ds a.defers→n0≤x.S.length →
   (∀ y a' eE,y.S=S'→Rel y→bk x y→dR y ay a'.tmps→lK n0 y eE a'.defers→DI P af b k cs e a' y.w)→eY P af () (G (b.atR a (.code c::k)) cs) x.w:=by
 intro c
 induction c with
 | skip =>
  intro _ k env ay S' e a x ds h hR he hd pP hn
  simp only[bC,Option.some.injEq,Prod.mk.injEq] at h
  obtain⟨rfl,rfl,rfl⟩:=h
  exact cE hP (fun w=>⟨_,Rv⟩) (hn x a ds rfl hR (bk.refl x) he hd)
 | label l =>
  intro _ k env ay S' e a x ds h hR he hd pP hn
  simp only[bC,Option.some.injEq,Prod.mk.injEq] at h
  obtain⟨rfl,rfl,rfl⟩:=h
  exact cE hP (fun w=>⟨_,Oi⟩) (hn x a ds rfl hR (bk.refl x) he hd)
 | region id ops draw =>
  intro gd k env ay S' e a x ds h hR he hd pP hn
  simp only[bC,Option.map_eq_some_iff,Prod.mk.injEq] at h
  obtain⟨⟨jG,S1⟩,h1,rfl,rfl,rfl⟩:=h
  exact gd h1 hk hR he fun y a' q1 q2 q3 q4 q5=>hn y a' ds q1 q2 q3 q4 (by rw[q5]; exact hd.mono q3)
 | seq c1 c2 Jd KX =>
  intro gd k env ay S' e a x ds h hR he hd pP hn
  simp only[bC] at h
  refine cE hP (fun w=>⟨_,B9⟩) ?_
  split at h
  ·rename_i jG S1 h1
   refine Jd gd.1 h1 hR he hd pP fun y a' eE q1 q2 q3 q4 q5 => ?_
   subst q1
   exact KX gd.2 h q2 q4 q5 (Nat.le_trans pP q3.len) fun z Y6 L8 r1 r2 r3 r4 r5=>hn z Y6 L8 r1 r2 (q3.trans r3) r4 r5
  ·rename_i r hne
   refine Jd gd.1 h hR he hd pP fun y a' eE q1 q2 q3 q4 q5=>DI.push (fun _=>rfl) ?_ (hn y a' eE q1 q2 q3 q4 q5)
   rintro rfl
   exact hne _ _ h
 | cond o c1 c2 Jd KX =>
  intro gd k env ay S' e a x ds h hR he hd pP hn
  simp only[bC] at h
  split at h
  ·rename_i ho
   have hv:=jS (rP he _ _ ho)
   refine cE hP (fun w=>⟨_,IC hv⟩) ?_
   rw[if_pos rfl]
   exact Jd gd.1 h hR he hd pP hn
  ·rename_i ho
   have hv:=jS (rP he _ _ ho)
   refine cE hP (fun w=>⟨_,IC hv⟩) ?_
   rw[if_neg (by simp)]
   exact KX gd.2 h hR he hd pP hn
  ·cases h
 | block id c ih =>
  intro gd k env ay S' e a x ds h hR he hd pP hn
  simp only[bC] at h
  refine cE hP (fun w=>⟨_,Oj⟩) ?_
  split at h
  ·rename_i gE jG S1 h1
   cases h
   refine ih gd h1 hR he hd pP fun y a' eE q1 q2 q3 q4 q5 => ?_
   have hf:=hn y a' eE q1 q2 q3 q4 q5
   intro k' pR
   simp only[exitTo] at pR
   by_cases hid:gE=id
   ·subst hid
    simp only[beq_self_eq_true,if_true] at pR hf
    exact cE hP (fun w=>⟨_,Rx pR⟩) hf
   ·rw[if_neg hid] at hf
    have:(id==gE)=false:=by simpa using fun e=>hid e.symm
    rw[this] at pR
    exact hf k' pR
  ·rename_i r hne
   refine ih gd h hR he hd pP fun y a' eE q1 q2 q3 q4 q5 => ?_
   have hf:=hn y a' eE q1 q2 q3 q4 q5
   cases e with
   | normal=>exact cE hP (fun w=>⟨_,GW⟩) hf
   | exit gE=>exact absurd h (hne _ _ _)
   | ret=>exact hf
 | loop c ih =>
  intro gd k env ay S' e a x ds h hR he hd pP hn
  simp only[bC] at h
  refine cE hP (fun w=>⟨_,Rw⟩) ?_
  have key:∀ n {env:List DV} {a:Act} {x:Cx} {ds:List Nat},j5 (bC P ty aD call yf L fn fC c) n env x.S=some (e,ay,S')→Rel x→dR x env a.tmps→lK n0 x ds a.defers→n0≤x.S.length →
    (∀ y a' eE,y.S=S'→Rel y→bk x y→dR y ay a'.tmps→lK n0 y eE a'.defers→DI P af b k cs e a' y.w)→eY P af () (G (b.atR a (.code c :: .inLoop c::k)) cs) x.w:=by
   intro n
   induction n with
   | zero=>intro env a x ds h; simp[j5] at h
   | succ n ihn =>
    intro env a x ds h hR he hd pP hn
    unfold j5 at h
    split at h
    ·rename_i jG S1 h1
     refine ih gd h1 hR he hd pP fun y a' eE q1 q2 q3 q4 q5 => ?_
     subst q1
     exact cE hP (fun w=>⟨_,J5⟩) (ihn h q2 q4 q5 (Nat.le_trans pP q3.len) fun z Y6 L8 r1 r2 r3 r4 r5=>hn z Y6 L8 r1 r2 (q3.trans r3) r4 r5)
    ·rename_i r hne
     refine ih gd h hR he hd pP fun y a' eE q1 q2 q3 q4 q5=>DI.push (fun _=>rfl) ?_ (hn y a' eE q1 q2 q3 q4 q5)
     rintro rfl
     exact hne _ _ h
  exact key L h hR he hd pP hn
 | scope c ih =>
  intro gd k env ay S' e a x ds h hR he hd pP hn
  simp only[bC] at h
  refine cE hP (fun w=>⟨_,Og⟩) ?_
  refine ih gd h hR he hd pP fun y a' eE q1 q2 q3 q4 q5 => ?_
  have hf:=hn y a' eE q1 q2 q3 q4 q5
  cases e with
  | normal=>exact cE hP (fun w=>⟨_,GV⟩) hf
  | exit gE=>exact DI.push (fun _=>rfl) (by simp) hf
  | ret=>exact hf
 | exit id =>
  intro _ k env ay S' e a x ds h hR he hd pP hn
  simp only[bC,Option.some.injEq,Prod.mk.injEq] at h
  obtain⟨rfl,rfl,rfl⟩:=h
  exact hn x a ds rfl hR (bk.refl x) he hd k rfl
 | ret =>
  intro _ k env ay S' e a x ds h hR he hd pP hn
  simp only[bC,Option.some.injEq,Prod.mk.injEq] at h
  obtain⟨rfl,rfl,rfl⟩:=h
  exact hn x a ds rfl hR (bk.refl x) he hd k
 | goto l=>intro _ k env ay S' e a x ds h; simp[bC] at h
 | refuse why=>intro _ k env ay S' e a x ds h; simp[bC] at h
 | rangeFunc f ps Jl body _ _ =>
  intro _ k env ay S' e a x ds h hR he hd pP hn
  simp only[bC] at h
  split at h
  ·cases h
  ·rename_i abA
   have hro:=PZ (by simpa using abA)
   split at h
   ·rename_i g fs vs hf
    have S5:=rP he _ _ hf
    generalize hv:a.eval f=vf at S5
    cases S5 with
    | @fn _ _ _ vfs vcs k1 k2 k3 k4 =>
     split at h
     ·rename_i u S1 h1
      refine fZ hP fun n => ?_
      have hRn:=hR.dr n
      have Mn:=dn x n
      have hp1:kP (x.w.at n) ((x.w.at n).alloc (.deferred (some []))) (.deferred (some [])):=ez _ _
      have Le:=jj (x:=x.dr n) (k:=0) (F:=fun _=>False) (b := .defer) hRn (xy x.S) hp1 (by simp) (.inr (.inr (.inl ⟨rfl,by simp,trivial⟩)))
      have M1:=gB (x:=x.dr n) (k:=0) (F:=fun _=>False) (b := .defer) hRn (xy x.S) hp1
      generalize Dq:(x.dr n).fresh ((x.w.at n).alloc (.deferred (some []))) x.S.length 0 (fun _=>False) .defer=x1 at Le M1
      have S9:x1.S=x.S++[.defer]:=by rw[← Dq]; exact wm x.S _
      have HB:x1.w=(x.w.at n).alloc (.deferred (some [])):=by rw[← Dq]; rfl
      have hμ1:x1.μ x.S.length=x.w.heap.size:=by rw[← Dq]; exact if_pos rfl
      have HX:x1.S.length=x.S.length+1:=by rw[S9]; simp
      have XT:kP x1.w (((x.w.at n).alloc (.deferred (some []))).alloc (.loop { state := .ready,pending:=none,fn:=b.fn,tmps:=a.tmps,params:=ps,assign:=Jl,body,defers:=x.w.heap.size })) (.loop { state := .ready,pending:=none,fn:=b.fn,tmps:=a.tmps,params:=ps,assign:=Jl,body,defers:=x.w.heap.size }):=by
       rw[HB]; exact ez _ _
      have Ud:AJ x1.S (x.S.length+1) := .inl HX.symm
      have M2:=gB (x:=x1) (k:=0) (F:=fun _=>False) (b := .loop ⟨.ready,none,fn,env,ps.toList,Jl,body,x.S.length⟩) Le Ud XT
      generalize zW:x1.fresh (((x.w.at n).alloc (.deferred (some []))).alloc (.loop { state := .ready,pending:=none,fn:=b.fn,tmps:=a.tmps,params:=ps,assign:=Jl,body,defers:=x.w.heap.size })) (x.S.length+1) 0 (fun _=>False) (.loop ⟨.ready,none,fn,env,ps.toList,Jl,body,x.S.length⟩)=x2 at M2
      have Dh:x2.S=x.S++[.defer,.loop ⟨.ready,none,fn,env,ps.toList,Jl,body,x.S.length⟩]:=by
       rw[← zW]
       show de x1.S (x.S.length+1) _=_
       rw[← HX,wm,S9]
       simp
      have hw2:x2.w=((x.w.at n).alloc (.deferred (some []))).alloc (.loop { state := .ready,pending:=none,fn:=b.fn,tmps:=a.tmps,params:=ps,assign:=Jl,body,defers:=x.w.heap.size }):=by rw[← zW]; rfl
      have hμ2:x2.μ (x.S.length+1)=x.w.heap.size+1:=by
       rw[← zW]
       show (if _ then x1.w.heap.size else _)=_
       rw[if_pos rfl,HB]
       simp[World.at]
      have hμ2':x2.μ x.S.length=x.w.heap.size:=by
       rw[← zW]
       show (if _ then _ else x1.μ x.S.length)=_
       rw[if_neg (by omega),hμ1]
      have MM:=(Mn.trans M1).trans M2
      have hR2:Rel x2:=by
       have:=jj (x:=x1) (k:=0) (F:=fun _=>False) (b := .loop ⟨.ready,none,fn,env,ps.toList,Jl,body,x.S.length⟩) Le Ud XT (by simp) (.inr (.inr (.inl ⟨rfl,by simp,?_⟩)))
       ·rw[zW] at this; exact this
       ·rw[zW]
        refine⟨rfl,rfl,HK,he.mono MM,by simp,rfl,rfl,hμ2'.symm,?_⟩
        rw[Dh]
        simp
      have MC:lK n0 x2 (x.S.length::ds) ({ target := .collected x.w.heap.size,args:=#[] }::a.defers):=by
       obtain⟨q1,q2,q3⟩:=hd.mono MM
       refine⟨by rw[List.map_cons,hμ2',q1],List.nodup_cons.2 ⟨fun hm => ?_,q2⟩,fun id hid => ?_⟩
       ·have:=(List.getElem?_eq_some_iff.1 (hd.2.2 _ hm).2.1).1
        omega
       ·rcases List.mem_cons.1 hid with rfl | hid
        ·refine⟨pP,by rw[Dh]; simp,?_⟩
         rw[hμ2',hw2]
         have:((x.w.at n).alloc (.deferred (some []))).heap.size=x.w.heap.size+1:=by simp[World.at]
         rw[(ez _ _).lt (by omega)]
         exact(ez (x.w.at n) _).new
        ·exact q3 id hid
      have ig:dR x2 (fs++[.uC (x.S.length+1)]++vs) (vfs++#[.func (.yield (x.w.heap.size+1)) #[] #[]]++vcs):=by
       have e1:dR x2 fs vfs:=dR.mono MM ⟨k1,k3⟩
       have e2:dR x2 vs vcs:=dR.mono MM ⟨k2,k4⟩
       refine iy (iy e1 ⟨rfl,fun j c hj => ?_⟩) e2
       cases j with
       | zero =>
        simp only[List.getElem?_cons_zero,Option.some.injEq] at hj
        subst hj
        show RV x2 _ (.func (.yield (x.w.heap.size+1)) #[] #[])
        rw[← hμ2]
        exact .uC (r:=⟨.ready,none,fn,env,ps.toList,Jl,body,x.S.length⟩) (by rw[Dh]; simp)
       | succ j=>simp at hj
      obtain⟨⟨sN,cd,LD,S6⟩,abN⟩:=hc _ _ _ _ _ h1 x2 _ hR2 Dh ig
      obtain⟨es,hstep⟩:=C1 (P:=P) (b:=b) (a:=a) (k:=k) (cs:=cs) (w:=x.w.at n) (g:=f) (ps:=ps) (assign:=Jl) (body:=body) hk hro hv LD S6 (hP.count g sN LD)
      refine⟨_,_,_,es,hstep,?_⟩
      have Ui:=abN (b.atR { a with defers:={ target := .collected x.w.heap.size,args:=#[] }::a.defers } (.inRangeFunc (x.w.heap.size+1)::k)) cs fun y u hp => ?_
      ·rw[hw2] at Ui
       exact Ui
      obtain⟨hyS,hyR,SQ,-⟩:=hp
      subst hyS
      rw[finish_atR_inRangeFunc]
      have MY:=MM.trans SQ
      split at h
      ·rename_i r hr
       split at h
       ·cases h
       ·rename_i aaF
        have hμy:y.μ (x.S.length+1)=x.w.heap.size+1:=by
         rw[(SQ.c9 _ _ (show x2.S[x.S.length+1]? = some (.loop ⟨.ready,none,fn,env,ps.toList,Jl,body,x.S.length⟩) by rw[Dh]; simp) rfl).1,hμ2]
        obtain⟨lo,l1,l2,l3,-⟩:=o8 hyR hr
        rw[hμy] at l1
        obtain⟨z1,z2⟩:=yz hyR hr (by rw[hμy]; exact l1) .exhausted r.iu
        have hwz:(y.rA (x.S.length+1) (.loop { lo with state := .exhausted,pending:=r.iu }) (.loop { r with st := .exhausted,iu:=r.iu })).w=bE y.w (x.w.heap.size+1) (.loop { lo with state := .exhausted,pending:=r.iu }):=by
         show bE y.w (y.μ _) _=_
         rw[hμy]
        have hSz:(y.rA (x.S.length+1) (.loop { lo with state := .exhausted,pending:=r.iu }) (.loop { r with st := .exhausted,iu:=r.iu })).S=y.S.set (x.S.length+1) (.loop { r with st := .exhausted }):=rfl
        generalize y.rA (x.S.length+1) (.loop { lo with state := .exhausted,pending:=r.iu }) (.loop { r with st := .exhausted,iu:=r.iu })=z at z1 z2 hwz hSz
        have MZ:=MY.trans z2
        refine fZ hP fun n2 => ?_
        have aaC:(Instr.endLoop (x.w.heap.size+1)).run P (y.w.at n2) = .ok r.iu (z.w.at n2):=by
         have hg:=gv (P:=P) (w:=y.w.at n2) (show (y.w.at n2).heap[x.w.heap.size+1]? = _ from l1) (by simp)
         have hs:=iz (P:=P) (w:=y.w.at n2) (o := .loop { lo with state := .exhausted,pending:=r.iu }) (show (y.w.at n2).heap[x.w.heap.size+1]? = _ from l1) (by simp)
         have hb:(lo.state==LoopState.busy)=false:=by rw[l2]; simpa using aaF
         simp only[Instr.endLoop,Instr.getLoop,Sem.run_bind,hg,Result.andThen_ok,Sem.run_pure,hb,Bool.false_eq_true,if_false,hs,l3]
         rw[hwz]
         rfl
        obtain⟨Tg,wR⟩:=Fq (P:=P) (b:=b) (a:={ a with defers:={ target := .collected x.w.heap.size,args:=#[] }::a.defers }) (k:=k) (cs:=cs) aaC
        refine⟨_,_,_,Tg,wR,DT ?_ n2⟩
        have rG:=hn z { a with defers:={ target := .collected x.w.heap.size,args:=#[] }::a.defers } (x.S.length::ds)
        split at h
        ·rename_i YB
         simp only[Option.some.injEq,Prod.mk.injEq] at h
         obtain⟨rfl,rfl,rfl⟩:=h
         rw[YB]
         exact rG hSz z1 MZ (he.mono MZ) ((MC.mono SQ).mono z2)
        ·rename_i YB
         simp only[Option.some.injEq,Prod.mk.injEq] at h
         obtain⟨rfl,rfl,rfl⟩:=h
         rw[YB]
         exact rG hSz z1 MZ (he.mono MZ) ((MC.mono SQ).mono z2) k
        ·rename_i e' YB
         simp only[Option.some.injEq,Prod.mk.injEq] at h
         obtain⟨rfl,rfl,rfl⟩:=h
         rw[YB]
         exact rG hSz z1 MZ (he.mono MZ) ((MC.mono SQ).mono z2) k rfl
        ·cases h
      ·cases h
     ·cases h
   ·cases h
end Go.Di
end
section
namespace Go.Di
open Go Go.Conc Go.Co
variable {P:Program} {af:Machine→Trace→Prop} {ty:eV} {x:Cx} {aD:bn} {call:aW} {yf:dH}
theorem lq (h:∀ id ops draw,oK P af ty aD call yf id ops draw):∀ c,yw P af ty aD call yf c:=by
 intro c
 induction c with
 | region id ops draw=>exact h id ops draw
 | seq a b iha ihb=>exact⟨iha,ihb⟩
 | cond o a b iha ihb=>exact⟨iha,ihb⟩
 | block id c ih=>exact ih
 | loop c ih=>exact ih
 | scope c ih=>exact ih
 | _=>trivial
def Jn (tmps:Array Value):ResultVar→Sem Value
 | .tmp t=>pure (tmps.getD t undef)
 | .cell a t=>do loadVar t (← asAddr (tmps.getD a undef))
theorem GP (fn:Func) (tmps:Array Value):results fn tmps=(do let vs ← fn.results.mapM (Jn tmps); pure (if h:vs.size=1 then vs[0] else .tuple vs)):=by
 have:(fun | .tmp t=>pure (tmps.getD t undef) | .cell a t=>do loadVar t (← asAddr (tmps.getD a undef)):ResultVar→Sem Value)=Jn tmps:=by
  funext r; cases r<;>rfl
 rw[← this]
 rfl
theorem CE (dh:gT P ty) {env:List DV} {tmps:Array Value} (hR:Rel x) (he:dR x env tmps):∀ {rs:List ResultVar} {l:List DV},oC ty env x.S rs=some l →
  ∃ vs:List Value,(rs.mapM (Jn tmps)).run P x.w = .ok vs x.w∧dR x l vs.toArray
 | [],l,h=>by
  simp only[oC,Option.some.injEq] at h
  subst h
  exact⟨[],rfl,rfl,by simp⟩
 | .tmp t::rs,l,h=>by
  simp only[oC,Option.map_eq_some_iff] at h
  obtain⟨l',h1,rfl⟩:=h
  obtain⟨vs,h2,h3,h4⟩:=CE dh hR he h1
  have hv:RV x (env.getD t aP) (tmps.getD t undef):=rP (a:=⟨tmps,[]⟩) he (.tmp t) _ rfl
  refine⟨tmps.getD t undef::vs,by simp only[List.mapM_cons,Jn,Sem.run_bind,Sem.run_pure,Result.andThen_ok,h2],by simpa using h3,fun j c hc => ?_⟩
  cases j with
  | zero=>simp only[List.getElem?_cons_zero,Option.some.injEq] at hc; subst hc; exact hv
  | succ j=>simpa [Array.getD_eq_getD_getElem?] using h4 j c (by simpa using hc)
 | .cell a t::rs,l,h=>by
  unfold oC at h
  split at h
  ·rename_i d l' h0 h1
   cases h
   obtain⟨vs,h2,h3,h4⟩:=CE dh hR he h1
   have hv:RV x (env.getD a aP) (tmps.getD a undef):=rP (a:=⟨tmps,[]⟩) he (.tmp a) _ rfl
   obtain⟨v,h5,h6⟩:=EM dh hR hv h0
   have hrun:(Jn tmps (.cell a t)).run P x.w = .ok v x.w:=by
    show (do loadVar t (← asAddr (tmps.getD a undef)):Sem Value).run P x.w=_
    generalize tmps.getD a undef=u at hv h5
    unfold ic at h0
    generalize env.getD a aP=da at hv h0
    split at h0
    ·cases hv; simpa [Instr.loadAt,Instr.sureAddr,asAddr] using h5
    ·cases hv; simpa [Instr.loadAt,Instr.sureAddr,asAddr] using h5
    ·split at h0
     ·rename_i hop
      obtain⟨hS,BO⟩:=iT hop
      cases hv with
      | dB xe _ hA =>
       rw[hS] at xe
       cases xe
       rw[hA BO] at h5 ⊢
       simpa [Instr.loadAt,Instr.sureAddr,asAddr] using h5
     ·cases h0
    ·cases h0
   refine⟨v::vs,by simp only[List.mapM_cons,Sem.run_bind,hrun,Result.andThen_ok,h2,Sem.run_pure],by simpa using h3,fun j c hc => ?_⟩
   cases j with
   | zero=>simp only[List.getElem?_cons_zero,Option.some.injEq] at hc; subst hc; exact h6
   | succ j=>simpa [Array.getD_eq_getD_getElem?] using h4 j c (by simpa using hc)
  ·cases h
theorem zk (dh:gT P ty) {fn:Func} {env:List DV} {tmps:Array Value} (hR:Rel x) (he:dR x env tmps) {l:List DV} (h:oC ty env x.S fn.results.toList=some l) :
  ∃ v,(results fn tmps).run P x.w = .ok v x.w∧RV x (oneOf l) v:=by
 obtain⟨vs,h1,h2,h3⟩:=CE dh hR he h
 have hm:(fn.results.mapM (Jn tmps)).run P x.w = .ok vs.toArray x.w:=by
  rw[Array.mapM_eq_mapM_toList]
  simp only[Sem.run_map,h1,Result.andThen_ok]
 refine⟨if h:vs.toArray.size=1 then vs.toArray[0] else .tuple vs.toArray,?_,?_⟩
 ·rw[GP]
  simp only[Sem.run_bind,hm,Result.andThen_ok,Sem.run_pure]
 ·match l,vs,h2,h3 with
  | [],[],_,_=>exact .ee rfl (by simp)
  | [d],[v],_,h3=>exact h3 0 d rfl
  | d::e::l,v::u::vs,h2,h3=>exact .ee (by simpa using h2) h3
  | [],_::_,h2,_=>simp at h2
  | [_],[],h2,_=>simp at h2
  | [_],_::_::_,h2,_=>simp at h2
  | _::_::_,[],h2,_=>simp at h2
  | _::_::_,[_],h2,_=>simp at h2
theorem Oh {b:Frame} {a:Act} {todo:List Item} {c:Frame} {cs:List Frame} {w:World} {fn:Func} {v:Value} (hn:b.kind = .normal) (hd:a.defers=[]) (hf:P.funcs[b.fn]? = some fn) (hr:(results fn a.tmps).run P w = .ok v w) :
  ∃ es,stepG P true (G { b.at a todo with mode := .returning } (c::cs)) w = .go (G (c.finish v) cs) w es:=by
 simp only[G,stepG,unwind,doReturn,Frame.at,hn,hd,hf,Sem.runT_eq,hr,GStep.after]
 exact⟨_,rfl⟩
theorem IB {b:Frame} {a:Act} {todo:List Item} {cs:List Frame} {w w':World} {r:Nat} {ds:List Deferred} (hd:a.defers={ target := .collected r,args:=#[] }::ds) (hr:(Instr.takeDeferred r).run P w = .ok [] w') :
  ∃ es,stepG P true (G { b.at a todo with mode := .returning } cs) w = .go (G { b.at { a with defers:=ds } todo with mode := .returning } cs) w' es:=by
 simp only[G,stepG,unwind,Frame.at,hd,Sem.runT_eq,hr,GStep.after,List.nil_append]
 exact⟨_,rfl⟩
theorem Ir {x0:Cx} (M:bk x0 x) (hR:Rel x) {id:Nat} (hid:x0.S.length≤id) (hS:x.S[id]? = some .defer) :
  Rel { x with w:=bE x.w (x.μ id) (.deferred none) }∧bk x0 { x with w:=bE x.w (x.μ id) (.deferred none) }∧∀ d v,RV x d v→RV { x with w:=bE x.w (x.μ id) (.deferred none) } d v:=by
 have fV:=aO hS (show DB.defer ≠ .none by simp)
 have ZA:∀ i,Live x0.S i→i≠id:=by
  rintro i ⟨c,hc,-⟩ rfl
  have:=(List.getElem?_eq_some_iff.1 hc).1
  omega
 have Nh:x0.w.heap.size≤x.μ id:=by
  rcases M.live id fV with ⟨h,-⟩ | h
  ·exact absurd rfl (ZA id h)
  ·exact h
 have mh:∀ b,b≠x.μ id→(bE x.w (x.μ id) (.deferred none)).heap[b]? = x.w.heap[b]? := fun b hb=>eA _ _ _ hb
 have FR:∀ b o,x.Fz b o→(bE x.w (x.μ id) (.deferred none)).cell? ⟨b,o,none⟩=x.w.cell? ⟨b,o,none⟩:=fun b o h=>cell_of_block (mh b (by rintro rfl; exact hR.Nj hS rfl o h)) o
 have K0:∀ d v,RV x d v→RV { x with w:=bE x.w (x.μ id) (.deferred none) } d v:=by
  intro d v h
  induction h with
  | val h=>exact .val h
  | agg h _ ih=>exact .agg h ih
  | ee h _ ih=>exact .ee h ih
  | sl hv _ h1 h2 h3 hsp h4 ih=>exact .sl (View.mono (x:=x) (y:={ x with w:=bE x.w (x.μ id) (.deferred none) }) (fun b o h=>⟨h,FR b o h⟩) hv) ih h1 h2 h3 hsp h4
  | ptr h=>exact .ptr h
  | cU hv _ ih=>exact .cU (View.mono (x:=x) (y:={ x with w:=bE x.w (x.μ id) (.deferred none) }) (fun b o h=>⟨h,FR b o h⟩) hv) ih
  | fn h1 h2 _ _ Jd KX=>exact .fn h1 h2 Jd KX
  | map h=>exact .map h
  | uC h=>exact .uC h
  | gD h h1 h2=>exact .gD h h1 h2
  | dB h h1 h2=>exact .dB h h1 h2
 have hne:∀ i b,x.S[i]? = some b→b ≠ .none→i≠id→x.μ i≠x.μ id:=fun i b hi hb h e=>h (hR.inj i id (aO hi hb) fV e)
 obtain⟨ob,hob,-⟩:=hR.c9 id _ hS rfl
 refine⟨⟨fun i l hl => ?_,fun i e s n hl => ?_,fun i b hb LY => ?_,hR.inj,fun b o h => ?_,hR.sep,hR.lF,fun i e s l z hl => ?_⟩,⟨?_,M.env,fun b o h=>⟨(M.fz b o h).1,?_⟩,M.Hx,fun b hb hn => ?_,M.len,M.cells,fun i b hb LY => ?_,M.cN,M.live,M.ops⟩,K0⟩
 ·obtain⟨arr,e,h1,h2,h3⟩:=hR.cells i l hl
  exact⟨arr,e,(mh _ (hne i _ hl (by simp) (by rintro rfl; rw[hS] at hl; cases hl))).trans h1,h2,fun j c hc=>K0 _ _ (h3 j c hc)⟩
 ·obtain⟨arr,h1,h2⟩:=hR.cN i e s n hl
  exact⟨arr,(mh _ (hne i _ hl (by simp) (by rintro rfl; rw[hS] at hl; cases hl))).trans h1,h2⟩
 ·by_cases h:i=id
  ·subst h
   rw[hS] at hb
   cases hb
   exact⟨_,um _ _ _ _ hob,trivial⟩
  ·obtain⟨o,h1,h2⟩:=hR.c9 i b hb LY
   refine⟨o,(mh _ (hne i _ hb (ep LY) h)).trans h1,?_⟩
   cases b<;>cases o<;>simp only[oL] at h2 ⊢<;>first | exact h2 | trivial | (obtain⟨q1,q2,q3,q4,q5⟩:=h2; exact⟨q1,q2,q3,⟨q4.1,fun j c hc=>K0 _ _ (q4.2 j c hc)⟩,q5⟩)
 ·obtain⟨v,hv⟩:=hR.uI b o h
  exact⟨v,(FR b o h).trans hv⟩
 ·obtain⟨arr,h1,h2,h3,h4,h5,h6⟩:=hR.ops i e s l z hl
  exact⟨arr,(mh _ (hne i _ hl (by simp) (by rintro rfl; rw[hS] at hl; cases hl))).trans h1,h2,h3,h4,fun j c hc=>⟨(h5 j c hc).1,K0 _ _ (h5 j c hc).2⟩,h6⟩
 ·show _≤(bE x.w _ _).heap.size
  simp only[bE,Array.size_setIfInBounds]
  exact M.size
 ·exact(FR b o (M.fz b o h).1).trans (M.fz b o h).2
 ·exact(mh b (by omega)).trans (M.old b hb hn)
 ·obtain⟨q1,q2,q3⟩:=M.c9 i b hb LY
  refine⟨q1,q2,fun hd=>(mh _ ?_).trans (q3 hd)⟩
  rw[← q1]
  obtain⟨b',q4,q5⟩:=q2
  exact hne i b' q4 (ep (o9 q5).2) (ZA i (aO hb (ep LY)))
theorem yK (hP:Plain P) (dh:gT P ty) {x0:Cx} {b:Frame} {todo:List Item} {c:Frame} {cs:List Frame} {fn:Func} {env:List DV} {l:List DV} (hb:b.kind = .normal) (hf:P.funcs[b.fn]? = some fn) {Sr:ak} :
  ∀ (ds:List Nat) {a:Act} {x:Cx},x.S=Sr→Rel x→bk x0 x→dR x env a.tmps→lK x0.S.length x ds a.defers→oC ty env Sr fn.results.toList=some l →
   (∀ y v,y.S=Sr→Rel y→bk x0 y→RV y (oneOf l) v→eY P af () (G (c.finish v) cs) y.w)→eY P af () (G { b.at a todo with mode := .returning } (c::cs)) x.w
 | [],a,x,hS,hR,hM,he,hd,hr,hn=>by
  refine fZ hP fun n => ?_
  have FU:a.defers=[]:=hd.1
  obtain⟨v,h1,h2⟩:=zk (x:=x.dr n) dh (hR.dr n) (he.mono (dn x n)) (l:=l) (by show oC ty env x.S _=_; rw[hS]; exact hr)
  obtain⟨es,hst⟩:=Oh (P:=P) (b:=b) (a:=a) (todo:=todo) (c:=c) (cs:=cs) hb FU hf h1
  exact⟨_,_,_,es,hst,hn (x.dr n) v hS (hR.dr n) (hM.trans (dn x n)) h2⟩
 | id::ds,a,x,hS,hR,hM,he,hd,hr,hn=>by
  obtain⟨q1,q2,q3⟩:=hd
  obtain⟨r1,r2,r3⟩:=q3 id (by simp)
  refine fZ hP fun n => ?_
  have jQ:=hR.dr n
  have Tc:=hM.trans (dn x n)
  obtain⟨t1,t2,t3⟩:=Ir (x:=x.dr n) Tc jQ r1 r2
  have hg:=gv (P:=P) (w:=x.w.at n) (show (x.w.at n).heap[x.μ id]? = _ from r3) (by simp)
  have hs:=iz (P:=P) (w:=x.w.at n) (o := .deferred none) (show (x.w.at n).heap[x.μ id]? = _ from r3) (by simp)
  have HW:(Instr.takeDeferred (x.μ id)).run P (x.w.at n) = .ok [] (bE (x.w.at n) (x.μ id) (.deferred none)):=by
   simp only[Instr.takeDeferred,Sem.run_bind,hg,Result.andThen_ok,hs,Sem.run_pure]
  obtain⟨es,hst⟩:=IB (P:=P) (b:=b) (a:=a) (todo:=todo) (cs:=c::cs) (ds:=ds.map fun id=>{ target := .collected (x.μ id),args:=#[] }) (by rw[q1]; rfl) HW
  refine⟨_,_,_,es,hst,?_⟩
  have Px:=List.nodup_cons.1 q2
  exact yK hP dh hb hf ds (x:={ x.dr n with w:=bE (x.w.at n) (x.μ id) (.deferred none) }) (a:={ a with defers:=ds.map fun id=>{ target := .collected (x.μ id),args:=#[] } }) hS t1 t2 ⟨he.1,fun j c hc=>t3 _ _ (RV.mono (dn x n) (he.2 j c hc))⟩
   ⟨rfl,Px.2,fun i hi=>by
    obtain⟨u1,u2,u3⟩:=q3 i (by simp[hi])
    have hne:x.μ i≠x.μ id:=fun e=>Px.1 (hR.inj i id (aO u2 (by simp)) (aO r2 (by simp)) e▸hi)
    exact⟨u1,u2,(eA _ _ _ hne).trans u3⟩⟩ hr hn
theorem Pg (hP:Plain P) (dh:gT P ty) (hc:gq P af call) (gd:∀ id ops draw,oK P af ty aD call yf id ops draw) {L:Nat} {f:FuncId} {fn:Func} (hf:P.funcs[f]? = some fn) {args:List DV} {S S':ak} {v:DV} (h:qQ P ty aD call yf L f fn args S=some (v,S'))
  {vals:Array Value} (hR:Rel x) (hS:x.S=S) (ha:dR x args vals):cT P af x f vals fun y u=>y.S=S'∧Rel y∧bk x y∧RV y v u:=by
 subst hS
 unfold qQ at h
 split at h
 ·rename_i c hb
  refine⟨⟨fn,c,hf,hb⟩,fun fr cs hn => ?_⟩
  rw[enter_at vals hf hb,← Frame.atR_of_none (b:=base f) rfl]
  have he:dR x (args++List.replicate (fn.ntmps-args.length) aP) (vals++Array.replicate (fn.ntmps-vals.size) undef):=by
   refine iy ha ⟨by simp[ha.1],fun j c hc => ?_⟩
   rw[List.getElem?_replicate] at hc
   split at hc
   ·rename_i hj
    cases hc
    have:j<fn.ntmps-vals.size:=by rw[ha.1]; exact hj
    have e:(Array.replicate (fn.ntmps-vals.size) undef).getD j undef=undef:=by simp[Array.getD_eq_getD_getElem?,this]
    rw[e]
    exact .val rfl
   ·cases hc
  have key:∀ e ay S1,bC P ty aD call yf L f false c (args++List.replicate (fn.ntmps-args.length) aP) x.S=some (e,ay,S1)→(e = .normal∨e = .ret)→(oC ty ay S1 fn.results.toList).map (fun l=>(oneOf l,S1))=some (v,S') →
    eY P af () (G ((base f).atR { tmps:=vals++Array.replicate (fn.ntmps-vals.size) undef,defers:=[] } [.code c]) (fr::cs)) x.w:=by
   intro e ay S1 h1 YK h2
   simp only[Option.map_eq_some_iff,Prod.mk.injEq] at h2
   obtain⟨l,h3,rfl,rfl⟩:=h2
   refine lB (n0:=x.S.length) (ds:=[]) (b:=base f) (cs:=fr::cs) (fC:=false) hP hc (by simp[base]) rfl (fun _=>rfl) c (lq gd c) h1 hR he (qu _ _) (Nat.le_refl _) fun y a' eE q1 q2 q3 q4 q5 => ?_
   have fT:∀ todo,eY P af () (G { (base f).at a' todo with mode := .returning } (fr::cs)) y.w:=fun todo =>
    yK hP dh (x0:=x) (b:=base f) (env:=ay) (l:=l) (Sr:=S1) rfl hf eE q1 q2 q3 q4 q5 h3 fun z u r1 r2 r3 r4=>hn z u ⟨r1,r2,r3,r4⟩
   rcases YK with rfl | rfl
   ·show eY P af () (G ((base f).atR a' []) (fr::cs)) y.w
    rw[Frame.atR_of_none (b:=base f) rfl]
    exact cE hP (fun w=>⟨_,stepG_end⟩) (fT _)
   ·intro k'
    rw[Frame.atR_of_none (b:=base f) rfl]
    exact cE hP (fun w=>⟨_,stepG_ret'⟩) (fT _)
  split at h
  ·rename_i ay S1 h1
   exact key _ _ _ h1 (.inl rfl) h
  ·rename_i ay S1 h1
   exact key _ _ _ h1 (.inr rfl) h
  ·cases h
 ·cases h
theorem Iu:∀ {ts:List Tmp} {ds:List DV} {vs:List Value} {env:List DV} {tmps:Array Value},dR x env tmps→vs.length=ds.length→(∀ (j:Nat) (c:DV),ds[j]? = some c→RV x c (vs.getD j undef)) →
  dR x (xX env (ts.zip ds)) ((ts.zip vs).foldl (fun tmps (p:Tmp×Value)=>tmps.setIfInBounds p.1 p.2) tmps)
 | [],ds,vs,env,tmps,h,_,_=>by simpa [xX] using h
 | t::ts,[],[],env,tmps,h,_,_=>by simpa [xX] using h
 | t::ts,[],_::_,env,tmps,h,hl,_=>by simp at hl
 | t::ts,_::_,[],env,tmps,h,hl,_=>by simp at hl
 | t::ts,d::ds,v::vs,env,tmps,h,hl,hv=>by
  simp only[List.zip_cons_cons,xX,List.foldl_cons]
  exact Iu (Iv h (by simpa using hv 0 d rfl)) (by simpa using hl) fun j c hc=>by simpa using hv (j+1) c (by simpa using hc)
theorem Ol {b:Frame} {a:Act} {k:List Item} {cs:List Frame} {w w':World} {l:Nat} (hk:b.kind ≠ .early) (hr:b.roundOf=some l) (h:(Instr.beginRound l).run P w = .ok () w') :
  ∃ es,stepG P true (G (b.atR a (.beginRound::k)) cs) w = .go (G (b.atR a k) cs) w' es:=by
 have pR:(b.kind==CallKind.early)=false:=by simpa using hk
 simp only[G,stepG,stepG.exec,Frame.atR,hr,stepG.apply,Option.elim_some,if_true,Sem.runT_eq,Sem.run_bind,h,Result.andThen_ok,Sem.run_pure,pR,GStep.after,Frame.finish]
 exact⟨_,rfl⟩
theorem C0 {b:Frame} {a:Act} {c:Frame} {cs:List Frame} {w w':World} {l:Nat} {v:Value} (hn:b.kind = .normal) (hr:b.roundOf=some l) (h:(Instr.endRound l none).run P w = .ok v w') :
  ∃ es,stepG P true (G (b.atR a []) (c::cs)) w = .go (G (c.finish v) cs) w' es:=by
 simp only[G,stepG,stepG.exec,Frame.atR,hr,Sem.runT_eq,h,GStep.after,doReturn,hn]
 exact⟨_,rfl⟩
theorem CZ {b:Frame} {a:Act} {k:List Item} {c:Frame} {cs:List Frame} {w w':World} {l:Nat} {v:Value} (hn:b.kind = .normal) (hr:b.roundOf=some l) (h:(Instr.endRound l (some .ret)).run P w = .ok v w') :
  ∃ es,stepG P true (G (b.atR a (.code .ret::k)) (c::cs)) w = .go (G (c.finish v) cs) w' es:=by
 simp only[G,stepG,stepG.exec,Frame.atR,hr,Sem.runT_eq,h,GStep.after,doReturn,hn]
 exact⟨_,rfl⟩
theorem Av {b:Frame} {a:Act} {k:List Item} {c:Frame} {cs:List Frame} {w w':World} {l id:Nat} {v:Value} (hn:b.kind = .normal) (hr:b.roundOf=some l) (he:exitTo id k=none) (h:(Instr.endRound l (some (.exit id))).run P w = .ok v w') :
  ∃ es,stepG P true (G (b.atR a (.code (.exit id)::k)) (c::cs)) w = .go (G (c.finish v) cs) w' es:=by
 simp only[G,stepG,stepG.exec,Frame.atR,hr,he,Option.elim_none,Sem.runT_eq,h,GStep.after,doReturn,hn]
 exact⟨_,rfl⟩
theorem JV (hP:Plain P) (hc:gq P af call) (gd:∀ id ops draw,oK P af ty aD call yf id ops draw) {L:Nat}:tB P af (Gi P ty aD call yf L):=by
 intro id args S v S' h x vals hR hS ha
 subst hS
 unfold Gi at h
 split at h
 ·rename_i r hr
  split at h
  ·rename_i hlen
   obtain⟨lo,l1,l2,l3,l4,l5,l6,l7,l8,-⟩:=o8 hR hr
   refine⟨lo,l1,by rw[l6]; simpa [ha.1] using hlen,fun fr cs hn => ?_⟩
   have Dt:∀ tmps,Frame.round (x.μ id) lo.fn tmps lo.assign lo.body .normal=({ (default:Frame) with fn:=r.fn,kind := .normal,roundOf:=some (x.μ id) }:Frame).atR { tmps:=tmps,defers:=[] } [.code r.assign,.beginRound,.code r.body]:=by
    intro tmps
    simp[Frame.round,Frame.atR,l4,l7,l8]
   rw[Dt]
   generalize hB:({ (default:Frame) with fn:=r.fn,kind := .normal,roundOf:=some (x.μ id) }:Frame)=B
   have Te:B.kind = .normal:=by rw[← hB]
   have hBf:B.fn=r.fn:=by rw[← hB]
   have hBr:B.roundOf=some (x.μ id):=by rw[← hB]
   have YW:B.kind ≠ .early:=by rw[Te]; simp
   have he:dR x (xX r.env (r.params.zip args)) ((lo.params.zip vals).foldl (fun tmps (t,a)=>tmps.setIfInBounds t a) lo.tmps):=by
    have:=Iu (ts:=r.params) (ds:=args) (vs:=vals.toList) l5 (by simpa using ha.1) fun j c hc=>by simpa [Array.getD_eq_getD_getElem?,List.getD_eq_getElem?_getD] using ha.2 j c hc
    rw[l6,← Array.foldl_toList]
    simpa using this
   split at h
   ·rename_i xR S1 h1
    split at h
    ·rename_i r1 uG
     split at h
     ·rename_i hst
      split at h
      ·rename_i e adF S2 h2
       split at h
       ·rename_i r2 Pw
        refine lB (n0:=0) (ds:=[]) (b:=B) (cs:=fr::cs) (fC:=true) hP hc YW hBf (by simp) r.assign (lq gd _) h1 hR he (qu _ _) (Nat.zero_le _) fun y a1 ds1 q1 q2 q3 q4 q5 => ?_
        subst q1
        obtain⟨SM,m1,m2,m3,-⟩:=o8 q2 uG
        have hμy:y.μ id=x.μ id:=(q3.c9 id _ hr rfl).1
        refine fZ hP fun n => ?_
        obtain⟨z1,z2⟩:=yz (q2.dr n) (id:=id) uG (lo:=SM) m1 .busy r1.iu
        have abF:({ SM with state := .busy,pending:=r1.iu }:Loop)={ SM with state := .busy }:=by rw[← m3]
        rw[abF] at z1 z2
        have abT:(Instr.beginRound (x.μ id)).run P (y.w.at n) = .ok () (bE (y.w.at n) (x.μ id) (.loop { SM with state := .busy })):=by
         have hg:=gv (P:=P) (w:=y.w.at n) (show (y.w.at n).heap[x.μ id]? = _ from(by rw[← hμy]; exact m1)) (by simp)
         have hs:=iz (P:=P) (w:=y.w.at n) (o := .loop { SM with state := .busy }) (show (y.w.at n).heap[x.μ id]? = _ from(by rw[← hμy]; exact m1)) (by simp)
         have PZ:SM.state = .ready:=by rw[m2]; exact hst
         simp only[Instr.beginRound,Instr.getLoop,Sem.run_bind,hg,Result.andThen_ok,Sem.run_pure,hs,PZ]
        obtain⟨es,hstep⟩:=Ol (P:=P) (a:=a1) (k:=[.code r.body]) (cs:=fr::cs) YW hBr abT
        refine⟨_,_,_,es,hstep,?_⟩
        generalize hz:(y.dr n).rA id (.loop { SM with state := .busy }) (.loop { r1 with st := .busy,iu:=r1.iu })=z at z1 z2
        have hzS:z.S=y.S.set id (.loop { r1 with st := .busy }):=by rw[← hz]; rfl
        have hzw:z.w=bE (y.w.at n) (x.μ id) (.loop { SM with state := .busy }):=by
         rw[← hz]
         show bE (y.w.at n) (y.μ id) _=_
         rw[hμy]
        rw[← hzw]
        have MYZ:=(dn y n).trans z2
        rw[← hzS] at h2
        refine lB (n0:=0) (ds:=ds1) (b:=B) (cs:=fr::cs) (k:=[]) (fC:=true) hP hc YW hBf (by simp) r.body (lq gd _) h2 z1 (q4.mono MYZ) (q5.mono MYZ) (Nat.zero_le _) fun u a2 Y5 p1 p2 p3 p4 p5 => ?_
        subst p1
        obtain⟨UA,n1,-⟩:=o8 p2 Pw
        have hμu:u.μ id=x.μ id:=by
         have:=(p3.c9 id _ (show z.S[id]? = some (.loop { r1 with st := .busy }) by rw[hzS,cI uG,if_pos rfl]) rfl).1
         rw[this,← hz]
         exact hμy
        have MXU:=(q3.trans MYZ).trans p3
        have fin:∀ st pd,∀ n2,(Instr.endRound (x.μ id) pd).run P (u.w.at n2) = .ok (.bool pd.isNone) (bE (u.w.at n2) (x.μ id) (.loop { UA with state:=if pd.isNone then .ready else .done,pending:=pd }))→st=(if pd.isNone then LoopState.ready else .done)→S'=u.S.set id (.loop { r2 with st:=st,iu:=pd })→v = .val (.bool pd.isNone) →
          eY P af () (G (fr.finish (.bool pd.isNone)) cs) (bE (u.w.at n2) (x.μ id) (.loop { UA with state:=if pd.isNone then .ready else .done,pending:=pd })):=by
         intro st pd n2 _ LW xe hv
         obtain⟨y1,y2⟩:=yz (p2.dr n2) (id:=id) Pw (lo:=UA) n1 st pd
         have:=hn ((u.dr n2).rA id (.loop { UA with state:=st,pending:=pd }) (.loop { r2 with st:=st,iu:=pd })) (.bool pd.isNone) ⟨xe.symm,y1,(MXU.trans (dn u n2)).trans y2,by rw[hv]; exact .val rfl⟩
         have e:((u.dr n2).rA id (.loop { UA with state:=st,pending:=pd }) (.loop { r2 with st:=st,iu:=pd })).w=bE (u.w.at n2) (x.μ id) (.loop { UA with state:=if pd.isNone then .ready else .done,pending:=pd }):=by
          show bE (u.w.at n2) (u.μ id) _=_
          rw[hμu,LW]
         rw[e] at this
         exact this
        have oE:∀ pd n2,(Instr.endRound (x.μ id) pd).run P (u.w.at n2) = .ok (.bool pd.isNone) (bE (u.w.at n2) (x.μ id) (.loop { UA with state:=if pd.isNone then .ready else .done,pending:=pd })):=by
         intro pd n2
         have hg:=gv (P:=P) (w:=u.w.at n2) (show (u.w.at n2).heap[x.μ id]? = _ from(by rw[← hμu]; exact n1)) (by simp)
         have hs:=fun o=>iz (P:=P) (w:=u.w.at n2) (o:=o) (show (u.w.at n2).heap[x.μ id]? = _ from(by rw[← hμu]; exact n1)) (by simp)
         simp only[Instr.endRound,Instr.getLoop,Sem.run_bind,hg,Result.andThen_ok,Sem.run_pure,hs]
        cases e with
        | normal =>
         simp only[Option.some.injEq,Prod.mk.injEq] at h
         refine fZ hP fun n2 => ?_
         obtain⟨Tg,wR⟩:=C0 (P:=P) (a:=a2) (c:=fr) (cs:=cs) Te hBr (oE none n2)
         exact⟨_,_,_,Tg,wR,fin .ready none n2 (oE none n2) rfl h.2.symm h.1.symm⟩
        | ret =>
         simp only[Option.some.injEq,Prod.mk.injEq] at h
         intro k'
         refine fZ hP fun n2 => ?_
         obtain⟨Tg,wR⟩:=CZ (P:=P) (a:=a2) (k:=k') (c:=fr) (cs:=cs) Te hBr (oE (some .ret) n2)
         exact⟨_,_,_,Tg,wR,fin .done (some .ret) n2 (oE (some .ret) n2) rfl h.2.symm h.1.symm⟩
        | exit i =>
         simp only[Option.some.injEq,Prod.mk.injEq] at h
         intro k' pR
         refine fZ hP fun n2 => ?_
         obtain⟨Tg,wR⟩:=Av (P:=P) (a:=a2) (k:=k') (c:=fr) (cs:=cs) Te hBr pR (oE (some (.exit i)) n2)
         exact⟨_,_,_,Tg,wR,fin .done (some (.exit i)) n2 (oE (some (.exit i)) n2) rfl h.2.symm h.1.symm⟩
       ·cases h
      ·cases h
     ·cases h
    ·cases h
   ·cases h
  ·cases h
 ·cases h
end Go.Di
end
section
namespace Go.Di
open Go Go.Conc Go.Co
open Go.ConcN (sumTo sumTo_upd sumTo_congr le_sumTo upd upd_same upd_ne)
variable {P:Program} {af:Machine→Trace→Prop} {ty:eV} {x:Cx} {aD:bn} {call:aW} {yf:dH}
def Closed (ops:Array Oper) (L:Nat→Bool):Prop:=∀ j o,ops[j]? = some o→L j=true→∀ e∈o.after,Region.binds .any e=true→L e.on=true
theorem qV {ops:Array Oper} (mA:∀ i o,ops[i]? = some o→∀ e∈o.after,Region.binds .any e=true→e.on<i) {σ:Type} (T:List Nat→σ→Prop) (J:(Nat→Bool)→σ→Prop)
  (hop:∀ L s i o,J L s→Closed ops L→ops[i]? = some o→L i=false→(∀ e∈o.after,Region.binds .any e=true→L e.on=true)→∀ rest,(∀ s',J (upd L i true) s'→T rest s')→T (i::rest) s)
  (oE:∀ L s,J L s→(∀ i,i<ops.size→L i=true)→T [] s) (t:Nat) (s:σ) (h0:J (fun _=>false) s):T (Region.linearise .any ops t) s:=by
 have key:∀ (fuel t:Nat) (listed:Array Bool) (s:σ),listed.size=ops.size→sumTo ops.size (fun j=>if listed.getD j true then 0 else 1)=fuel→J (fun j=>listed.getD j false) s→Closed ops (fun j=>listed.getD j false)→T (Region.linearise.go .any ops fuel t listed []) s:=by
  intro fuel
  induction fuel with
  | zero =>
   intro t listed s hsz F2 hJ _
   refine oE _ s hJ fun i hi => ?_
   have h1:=le_sumTo (f:=fun j=>if listed.getD j true then 0 else 1) hi
   rw[F2] at h1
   have h2:listed.getD i true=true:=by
    cases h:listed.getD i true with
    | true=>rfl
    | false=>simp[h] at h1
   simpa [Array.getElem?_eq_getElem (show i<listed.size by omega)] using h2
  | succ fuel ih =>
   intro t listed s hsz F2 hJ uD
   simp only[Region.linearise.go]
   change T (match (Region.ready .any ops listed)[t % (Region.ready .any ops listed).length]? with
    | some i=>Region.linearise.go .any ops fuel (t / (Region.ready .any ops listed).length) (listed.setIfInBounds i true) [i]
    | none=>[].reverse) s
   cases hi:(Region.ready .any ops listed)[t % (Region.ready .any ops listed).length]? with
   | none =>
    have F3:Region.ready .any ops listed=[]:=by
     cases hr:Region.ready .any ops listed with
     | nil=>rfl
     | cons x xs =>
      rw[hr] at hi
      have hlt:t % (x::xs).length<(x::xs).length:=Nat.mod_lt _ (by simp)
      simp at hi
      simp at hlt
      omega
    refine oE _ s hJ fun i hi => ?_
    induction i using Nat.strongRecOn with
    | ind i ihi =>
     have Lb:i<listed.size:=by omega
     cases hb:listed.getD i false with
     | true=>rfl
     | false =>
      have mc:i∈Region.ready .any ops listed:=by
       refine mem_ready.2 ⟨by simpa [Array.getElem?_eq_getElem Lb] using hb,ops[i],Array.getElem?_eq_getElem hi,fun e he X3 => ?_⟩
       have hlt:=mA i _ (Array.getElem?_eq_getElem hi) e he X3
       exact ihi e.on hlt (by omega)
      rw[F3] at mc
      cases mc
   | some i =>
    simp only[]
    rw[linearise_go_acc,List.reverse_singleton,List.singleton_append]
    have mc:=List.mem_of_getElem? hi
    obtain⟨Yu,o,ho,dx⟩:=mem_ready.1 mc
    have XY:i<ops.size:=(Array.getElem?_eq_some_iff.1 ho).1
    have Lb:i<listed.size:=by omega
    have h2:(fun j=>(listed.setIfInBounds i true).getD j false)=upd (fun j=>listed.getD j false) i true:=by
     funext j
     by_cases eB:j=i
     ·subst eB
      rw[upd_same]
      simp[Array.getElem?_setIfInBounds_self_of_lt Lb]
     ·rw[upd_ne _ _ eB,getD_set_ne false (Ne.symm eB)]
    refine hop _ s i o hJ uD ho (by simpa [Array.getElem?_eq_getElem Lb] using Yu) (fun e he hb=>dx e he hb) _ fun s' hJ'=>ih _ _ s' (by simpa using hsz) ?_ (by rw[h2]; exact hJ') ?_
    ·have h1:=sumTo_upd (fun j=>listed.getD j true) true (fun b=>if b then 0 else 1) XY
     rw[Yu] at h1
     simp only[if_true,Bool.false_eq_true,if_false] at h1
     have h2:sumTo ops.size (fun j=>if (listed.setIfInBounds i true).getD j true then 0 else 1)=sumTo ops.size fun j=>if upd (fun j=>listed.getD j true) i true j then 0 else 1:=by
      refine sumTo_congr fun j _ => ?_
      by_cases eB:j=i
      ·subst eB
       rw[upd_same]
       simp[Array.getElem?_setIfInBounds_self_of_lt Lb]
      ·rw[upd_ne _ _ eB,getD_set_ne true (Ne.symm eB)]
     rw[h2]
     omega
    ·rw[h2]
     intro j o' ja hj e he hb
     by_cases eB:j=i
     ·subst eB
      rw[ho] at ja
      cases ja
      by_cases HM:e.on=j
      ·rw[HM,upd_same]
      ·rw[upd_ne _ _ HM]; exact dx e he hb
     ·rw[upd_ne _ _ eB] at hj
      by_cases HM:e.on=i
      ·rw[HM,upd_same]
      ·rw[upd_ne _ _ HM]; exact uD j o' ja hj e he hb
 refine key ops.size t (Array.replicate ops.size false) s (by simp) ?_ ?_ ?_
 ·have:∀ n,n≤ops.size→sumTo n (fun j=>if (Array.replicate ops.size false).getD j true then 0 else 1)=n:=by
   intro n
   induction n with
   | zero=>intro _; rfl
   | succ n ih =>
    intro hn
    simp only[sumTo]
    rw[ih (by omega)]
    simp[show n<ops.size by omega]
  exact this _ (Nat.le_refl _)
 ·have:(fun j=>(Array.replicate ops.size false).getD j false)=fun _=>false:=by
   funext j
   simp[Array.getD_eq_getD_getElem?,Array.getElem?_replicate]
   split<;>rfl
  rw[this]
  exact h0
 ·intro j o _ hj
  exfalso
  revert hj
  simp[Array.getD_eq_getD_getElem?,Array.getElem?_replicate]
  split<;>simp
theorem pM (ops:Array Oper) {L:Nat→Bool} (hL:Closed ops L):∀ j i,((Region.before ops).getD j 0).testBit i=true→L j=true→L i=true:=by
 have key:∀ (l pre:List Oper) (acc:Array Nat),ops.toList=pre++l→acc.size=pre.length→(∀ j i,(acc.getD j 0).testBit i=true→L j=true→L i=true) →
   ∀ j i,((l.foldl (fun acc (o:Oper)=>acc.push (o.after.foldl (fun s e=>if Region.binds .any e then s ||| 2 ^ e.on ||| acc.getD e.on 0 else s) 0)) acc).getD j 0).testBit i=true→L j=true→L i=true:=by
  intro l
  induction l with
  | nil=>intro pre acc _ _ h; exact h
  | cons o l ih =>
   intro pre acc B3 hsz h
   simp only[List.foldl_cons]
   refine ih (pre++[o]) _ (by rw[B3]; simp) (by simp[hsz]) fun j i ht hj => ?_
   have ho:ops[pre.length]? = some o:=by rw[← Array.getElem?_toList,B3]; simp
   by_cases hjs:j<acc.size
   ·refine h j i ?_ hj
    rw[Array.getD_eq_getD_getElem?,Array.getElem?_push_lt hjs] at ht
    rw[Array.getD_eq_getD_getElem?,Array.getElem?_eq_getElem hjs]
    exact ht
   ·by_cases YF:j=acc.size
    ·subst YF
     rw[Array.getD_eq_getD_getElem?,Array.getElem?_push_size,Option.getD_some] at ht
     rw[hsz] at hj
     have dx:=hL _ _ ho hj
     have fold:∀ (es:List Edge) (s:Nat),(∀ e∈es,e∈o.after)→(s.testBit i=true→L i=true)→(es.foldl (fun s e=>if Region.binds .any e then s ||| 2 ^ e.on ||| acc.getD e.on 0 else s) s).testBit i=true→L i=true:=by
      intro es
      induction es with
      | nil=>intro s _ hs ht; exact hs ht
      | cons e es ihe =>
       intro s he hs ht
       simp only[List.foldl_cons] at ht
       refine ihe _ (fun e' h'=>he e' (by simp[h'])) (fun hb => ?_) ht
       split at hb
       ·rename_i X3
        simp only[Nat.testBit_or,Bool.or_eq_true,Nat.testBit_two_pow,decide_eq_true_eq] at hb
        rcases hb with (hb | hb) | hb
        ·exact hs hb
        ·rw[← hb]; exact dx e (he e (by simp)) X3
        ·exact h _ _ hb (dx e (he e (by simp)) X3)
       ·exact hs hb
     rw[← Array.foldl_toList] at ht
     exact fold o.after.toList 0 (by simp) (by simp) ht
    ·rw[Array.getD_eq_getD_getElem?,Array.getElem?_eq_none (by simp; omega)] at ht
     simp at ht
 intro j i
 unfold Region.before
 rw[← Array.foldl_toList]
 exact key ops.toList [] #[] rfl rfl (by simp) j i
theorem jm {ρ ρ':Operand→Option DV}:∀ {l:List Operand},(∀ a∈l,ρ a=ρ' a)→evs ρ l=evs ρ' l
 | [],_=>rfl
 | a::l,h=>by
  unfold evs
  rw[h a (by simp),jm fun b hb=>h b (by simp[hb])]
theorem pF {ρ ρ':Operand→Option DV}:∀ {l:List (Nat×Operand)},(∀ a∈l.map (·.2),ρ a=ρ' a)→gX ρ l=gX ρ' l
 | [],_=>rfl
 | (i,a)::l,h=>by
  unfold gX
  rw[h a (by simp),pF fun b hb=>h b (by simp at hb ⊢; exact .inr hb)]
theorem pL {ρ ρ':Operand→Option DV} {a:Option Operand} {d m:Nat} (h:∀ b∈a.toArray,ρ b=ρ' b):eO ρ a d m=eO ρ' a d m:=by
 cases a with
 | none=>rfl
 | some b=>simp only[eO,intOf,h b (by simp)]
theorem uk {ρ ρ':Operand→Option DV} {o:Oper} {S:ak} {aA:Nat} (h:∀ a∈o.op.operands,ρ a=ρ' a):ai P ty aD call yf ρ o S aA=ai P ty aD call yf ρ' o S aA:=by
 obtain⟨dst,op,type,pos,after,guard⟩:=o
 cases op<;>simp only[Op.operands,Call.operands] at h<;>try rfl
 case move a=>simp only[ai,h a (by simp)]
 case assign a=>simp only[ai,h a (by simp)]
 case pick a b c=>simp only[ai,h a (by simp),h b (by simp),h c (by simp)]
 case box t a=>simp only[ai,h a (by simp)]
 case build t ps =>
  have:=pF (ρ:=ρ) (ρ':=ρ') (l:=ps.toList) fun a ha=>h a (by simpa using ha)
  simp only[ai,this]
 case buildSlice t n ps =>
  have:=pF (ρ:=ρ) (ρ':=ρ') (l:=ps.toList) fun a ha=>h a (by simpa using ha)
  simp only[ai,this]
 case makeSlice t a b=>simp only[ai,intOf,h a (by simp),h b (by simp)]
 case load t a=>simp only[ai,h a (by simp)]
 case store t a v=>simp only[ai,h a (by simp),h v (by simp)]
 case nilCheck a=>simp only[ai,h a (by simp)]
 case binOp op t a b u=>simp only[ai,valOf,h a (by simp),h b (by simp)]
 case unOp op t a=>simp only[ai,valOf,h a (by simp)]
 case convert s d a=>simp only[ai,valOf,h a (by simp)]
 case makeFunc fn fs cs =>
  cases fn with
  | func f=>simp only[ai,jm (ρ:=ρ) (ρ':=ρ') (l:=fs.toList) fun a ha=>h a (by simp at ha ⊢; exact .inl ha),jm (ρ:=ρ) (ρ':=ρ') (l:=cs.toList) fun a ha=>h a (by simp at ha ⊢; exact .inr ha)]
  | _=>rfl
 case makeMap t r=>cases r<;>rfl
 case slice t a lo hi mx =>
  have h1:ρ a=ρ' a:=h a (by simp)
  have h2:=fun d m=>pL (ρ:=ρ) (ρ':=ρ') (a:=lo) (d:=d) (m:=m) fun b hb=>h b (by simp at hb ⊢; simp[hb])
  have h3:=fun d m=>pL (ρ:=ρ) (ρ':=ρ') (a:=hi) (d:=d) (m:=m) fun b hb=>h b (by simp at hb ⊢; simp[hb])
  have h4:=fun d m=>pL (ρ:=ρ) (ρ':=ρ') (a:=mx) (d:=d) (m:=m) fun b hb=>h b (by simp at hb ⊢; simp[hb])
  simp only[ai,h1,h2,h3,h4]
 case fieldAddr t a f=>simp only[ai,h a (by simp)]
 case field t a f=>simp only[ai,h a (by simp)]
 case indexAddr t a i=>simp only[ai,intOf,h a (by simp),h i (by simp)]
 case index t a i=>simp only[ai,intOf,h a (by simp),h i (by simp)]
 case lookup t a i ok=>simp only[ai,valOf,h a (by simp),h i (by simp)]
 case mapUpdate t m k v=>simp only[ai,valOf,h m (by simp),h k (by simp),h v (by simp)]
 case extract a i=>simp only[ai,h a (by simp)]
 case call c =>
  obtain⟨callee,args,ats⟩:=c
  cases callee with
  | builtin b =>
   simp only[Array.empty_append] at h
   have h1:∀ a∈args.toList,ρ a=ρ' a:=fun a ha=>h a (by simpa using ha)
   have h2:=jm h1
   simp only[ai]
   generalize args.toList=l at h1 h2
   generalize ats.toList=m
   cases b<;>try rfl
   ·match l,m with
    | [a,c],[t,u]=>simp only[h1 a (by simp),h1 c (by simp)]
    | [],_=>rfl
    | [_],_=>rfl
    | _::_::_::_,_=>rfl
    | [_,_],[]=>rfl
    | [_,_],[_]=>rfl
    | [_,_],_::_::_::_=>rfl
   ·match l,m with
    | [a],[t]=>simp only[h1 a (by simp)]
    | [],_=>rfl
    | _::_::_,_=>rfl
    | [_],[]=>rfl
    | [_],_::_::_=>rfl
   ·simp only[h2]
   ·simp only[h2]
  | value f =>
   have h1:ρ f=ρ' f:=h f (by simp)
   have h2:=jm (ρ:=ρ) (ρ':=ρ') (l:=args.toList) fun a ha=>h a (by simp at ha ⊢; exact .inr ha)
   simp only[ai,h1,h2]
  | invoke r m=>rfl
end Go.Di
end
