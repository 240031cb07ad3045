import Derived.Test.YtedcgbkilmlbhaaPk25
import Derived.Orders
section
namespace Go.Di
open Go Go.Conc Go.Co
variable {P:Program} {af:Machine→Trace→Prop} {ty:eS} {x:Cx} {aD:bq} {call:bg} {yf:dF}
theorem ER {b:Frame} {a:Act} {k:List Item} {cs:List Frame} {w w':World} {l:Nat} {jump:Option Code} (h:(Instr.endLoop l).run P w = .ok jump w') :
  ∃ es,stepG P true (G (b.atR a (.endRangeFunc l::k)) cs) w = .go (G (b.atR a ((jump.map Item.code).toList++k)) cs) w' es:=by
 simp only[G,stepG,stepG.exec,Frame.atR,Sem.runT_eq,h,GStep.after]
 exact⟨_,rfl⟩
theorem oP (hR:Rel x) {id:Nat} {r:HJ} (h:x.S[id]? = some (.loop r)):∃ lo,x.w.heap[x.μ id]? = some (.loop lo)∧lo.state=r.st∧lo.pending=r.gT∧lo.fn=r.fn∧eR x r.env lo.tmps∧lo.params=r.params.toArray∧lo.assign=r.assign∧lo.body=r.body∧lo.defers=x.μ r.dfr∧x.S[r.dfr]? = some .defer:=by
 obtain⟨o,h1,h2⟩:=hR.c9 id _ h rfl
 cases o<;>simp only[oz] at h2
 exact⟨_,h1,h2⟩
theorem x4 (hR:Rel x) {id:Nat} {r:HJ} (h:x.S[id]? = some (.loop r)) {lo:Loop} (KN:x.w.heap[x.μ id]? = some (.loop lo)) (st:LoopState) (pd:Option Code) :
  Rel (x.qR id (.loop { lo with state:=st,pending:=pd }) (.loop { r with st:=st,gT:=pd }))∧bI x (x.qR id (.loop { lo with state:=st,pending:=pd }) (.loop { r with st:=st,gT:=pd })):=by
 obtain⟨lo',h1,h2,h3,h4,h5,h6,h7,h8,h9,rX⟩:=oP hR h
 rw[KN] at h1
 cases h1
 have M:=uK (x:=x) (o := .loop { lo with state:=st,pending:=pd }) (b := .loop { r with st:=st,gT:=pd }) hR h rfl (by simp)
 refine⟨D7 hR h rfl (by simp) ⟨rfl,rfl,h4,h5.mono M,h6,h7,h8,h9,?_⟩,M⟩
 show (x.S.set _ _)[_]? = _
 rw[eG h,if_neg (by rintro e; rw[e,h] at rX; cases rX)]
 exact rX
theorem Ir (S:ak):Ai S S.length := .inl rfl
theorem vD (S:ak) (b:DB):cW S S.length b=S++[b]:=by unfold cW; rw[if_neg (by omega)]
set_option maxHeartbeats 1000000 in
theorem tw (hP:Plain P) (hc:gW P af call) {L:Nat} {fn:FuncId} {gJ:Bool} {n0:Nat} {b:Frame} {cs:List Frame} (hk:b.kind ≠ .early) (K9:b.fn=fn) (WY:gJ=false→b.roundOf=none) :
  ∀ (c:Code),xX P af ty aD call yf c→∀ {k:List Item} {env az:List DV} {S':ak} {e:DX} {a:Act} {x:Cx} {ds:List Nat},bO P ty aD call yf L fn gJ c env x.S=some (e,az,S')→Rel x→eR x env a.tmps→oB n0 x ds a.defers→n0≤x.S.length →
   (∀ y a' fD,y.S=S'→Rel y→bI x y→eR y az a'.tmps→oB n0 y fD a'.defers→Dg P af b k cs e a' y.w)→fH P af () (G (b.atR a (.code c::k)) cs) x.w:=by
 intro c
 induction c with
 | skip =>
  intro _ k env az S' e a x ds h hR he hd rW hn
  simp only[bO,Option.some.injEq,Prod.mk.injEq] at h
  obtain⟨rfl,rfl,rfl⟩:=h
  exact dL hP (fun w=>⟨_,Q0⟩) (hn x a ds rfl hR (bI.refl x) he hd)
 | label l =>
  intro _ k env az S' e a x ds h hR he hd rW hn
  simp only[bO,Option.some.injEq,Prod.mk.injEq] at h
  obtain⟨rfl,rfl,rfl⟩:=h
  exact dL hP (fun w=>⟨_,N1⟩) (hn x a ds rfl hR (bI.refl x) he hd)
 | region id ops draw =>
  intro iR k env az S' e a x ds h hR he hd rW hn
  simp only[bO,Option.map_eq_some_iff,Prod.mk.injEq] at h
  obtain⟨⟨lR,S1⟩,h1,rfl,rfl,rfl⟩:=h
  exact iR h1 hk hR he fun y a' q1 q2 q3 q4 q5=>hn y a' ds q1 q2 q3 q4 (by rw[q5]; exact hd.mono q3)
 | seq c1 c2 I2 KE =>
  intro iR k env az S' e a x ds h hR he hd rW hn
  simp only[bO] at h
  refine dL hP (fun w=>⟨_,VR⟩) ?_
  split at h
  ·rename_i lR S1 h1
   refine I2 iR.1 h1 hR he hd rW fun y a' fD q1 q2 q3 q4 q5 => ?_
   subst q1
   exact KE iR.2 h q2 q4 q5 (Nat.le_trans rW q3.len) fun z a'' Vb r1 r2 r3 r4 r5=>hn z a'' Vb r1 r2 (q3.trans r3) r4 r5
  ·rename_i r hne
   refine I2 iR.1 h hR he hd rW fun y a' fD q1 q2 q3 q4 q5=>Dg.push (fun _=>rfl) ?_ (hn y a' fD q1 q2 q3 q4 q5)
   rintro rfl
   exact hne _ _ h
 | cond o c1 c2 I2 KE =>
  intro iR k env az S' e a x ds h hR he hd rW hn
  simp only[bO] at h
  split at h
  ·rename_i ho
   have hv:=qX (ru he _ _ ho)
   refine dL hP (fun w=>⟨_,Ih hv⟩) ?_
   rw[if_pos rfl]
   exact I2 iR.1 h hR he hd rW hn
  ·rename_i ho
   have hv:=qX (ru he _ _ ho)
   refine dL hP (fun w=>⟨_,Ih hv⟩) ?_
   rw[if_neg (by simp)]
   exact KE iR.2 h hR he hd rW hn
  ·cases h
 | block id c ih =>
  intro iR k env az S' e a x ds h hR he hd rW hn
  simp only[bO] at h
  refine dL hP (fun w=>⟨_,N2⟩) ?_
  split at h
  ·rename_i gf lR S1 h1
   cases h
   refine ih iR h1 hR he hd rW fun y a' fD q1 q2 q3 q4 q5 => ?_
   have hf:=hn y a' fD q1 q2 q3 q4 q5
   intro k' qx
   simp only[exitTo] at qx
   by_cases hid:gf=id
   ·subst hid
    simp only[beq_self_eq_true,if_true] at qx hf
    exact dL hP (fun w=>⟨_,Q2 qx⟩) hf
   ·rw[if_neg hid] at hf
    have:(id==gf)=false:=by simpa using fun e=>hid e.symm
    rw[this] at qx
    exact hf k' qx
  ·rename_i r hne
   refine ih iR h hR he hd rW fun y a' fD q1 q2 q3 q4 q5 => ?_
   have hf:=hn y a' fD q1 q2 q3 q4 q5
   cases e with
   | normal=>exact dL hP (fun w=>⟨_,Gy⟩) hf
   | exit gf=>exact absurd h (hne _ _ _)
   | ret=>exact hf
 | loop c ih =>
  intro iR k env az S' e a x ds h hR he hd rW hn
  simp only[bO] at h
  refine dL hP (fun w=>⟨_,Q1⟩) ?_
  have key:∀ n {env:List DV} {a:Act} {x:Cx} {ds:List Nat},jN (bO P ty aD call yf L fn gJ c) n env x.S=some (e,az,S')→Rel x→eR x env a.tmps→oB n0 x ds a.defers→n0≤x.S.length →
    (∀ y a' fD,y.S=S'→Rel y→bI x y→eR y az a'.tmps→oB n0 y fD a'.defers→Dg P af b k cs e a' y.w)→fH P af () (G (b.atR a (.code c :: .inLoop c::k)) cs) x.w:=by
   intro n
   induction n with
   | zero=>intro env a x ds h; simp[jN] at h
   | succ n ihn =>
    intro env a x ds h hR he hd rW hn
    unfold jN at h
    split at h
    ·rename_i lR S1 h1
     refine ih iR h1 hR he hd rW fun y a' fD q1 q2 q3 q4 q5 => ?_
     subst q1
     exact dL hP (fun w=>⟨_,JO⟩) (ihn h q2 q4 q5 (Nat.le_trans rW q3.len) fun z a'' Vb r1 r2 r3 r4 r5=>hn z a'' Vb r1 r2 (q3.trans r3) r4 r5)
    ·rename_i r hne
     refine ih iR h hR he hd rW fun y a' fD q1 q2 q3 q4 q5=>Dg.push (fun _=>rfl) ?_ (hn y a' fD q1 q2 q3 q4 q5)
     rintro rfl
     exact hne _ _ h
  exact key L h hR he hd rW hn
 | scope c ih =>
  intro iR k env az S' e a x ds h hR he hd rW hn
  simp only[bO] at h
  refine dL hP (fun w=>⟨_,NZ⟩) ?_
  refine ih iR h hR he hd rW fun y a' fD q1 q2 q3 q4 q5 => ?_
  have hf:=hn y a' fD q1 q2 q3 q4 q5
  cases e with
  | normal=>exact dL hP (fun w=>⟨_,Gx⟩) hf
  | exit gf=>exact Dg.push (fun _=>rfl) (by simp) hf
  | ret=>exact hf
 | exit id =>
  intro _ k env az S' e a x ds h hR he hd rW hn
  simp only[bO,Option.some.injEq,Prod.mk.injEq] at h
  obtain⟨rfl,rfl,rfl⟩:=h
  exact hn x a ds rfl hR (bI.refl x) he hd k rfl
 | ret =>
  intro _ k env az S' e a x ds h hR he hd rW hn
  simp only[bO,Option.some.injEq,Prod.mk.injEq] at h
  obtain⟨rfl,rfl,rfl⟩:=h
  exact hn x a ds rfl hR (bI.refl x) he hd k
 | goto l=>intro _ k env az S' e a x ds h; simp[bO] at h
 | refuse why=>intro _ k env az S' e a x ds h; simp[bO] at h
 | rangeFunc f ps Ja body _ _ =>
  intro _ k env az S' e a x ds h hR he hd rW hn
  simp only[bO] at h
  split at h
  ·cases h
  ·rename_i aau
   have hro:=WY (by simpa using aau)
   split at h
   ·rename_i g fs vs hf
    have Sl:=ru he _ _ hf
    generalize hv:a.eval f=vf at Sl
    cases Sl with
    | @fn _ _ _ vfs vcs k1 k2 k3 k4 =>
     split at h
     ·rename_i u S1 h1
      refine fK hP fun n => ?_
      have hRn:=hR.dr n
      have Mn:=dg x n
      have hp1:kD (x.w.at n) ((x.w.at n).alloc (.deferred (some []))) (.deferred (some [])):=ew _ _
      have PG:=iZ (x:=x.dr n) (k:=0) (F:=fun _=>False) (b := .defer) hRn (Ir x.S) hp1 (by simp) (.inr (.inr (.inl ⟨rfl,by simp,trivial⟩)))
      have M1:=gb (x:=x.dr n) (k:=0) (F:=fun _=>False) (b := .defer) hRn (Ir x.S) hp1
      generalize C5:(x.dr n).fresh ((x.w.at n).alloc (.deferred (some []))) x.S.length 0 (fun _=>False) .defer=x1 at PG M1
      have Su:x1.S=x.S++[.defer]:=by rw[← C5]; exact vD x.S _
      have G6:x1.w=(x.w.at n).alloc (.deferred (some [])):=by rw[← C5]; rfl
      have hμ1:x1.μ x.S.length=x.w.heap.size:=by rw[← C5]; exact if_pos rfl
      have Ht:x1.S.length=x.S.length+1:=by rw[Su]; simp
      have W0:kD x1.w (((x.w.at n).alloc (.deferred (some []))).alloc (.loop { state := .ready,pending:=none,fn:=b.fn,tmps:=a.tmps,params:=ps,assign:=Ja,body,defers:=x.w.heap.size })) (.loop { state := .ready,pending:=none,fn:=b.fn,tmps:=a.tmps,params:=ps,assign:=Ja,body,defers:=x.w.heap.size }):=by
       rw[G6]; exact ew _ _
      have Tg:Ai x1.S (x.S.length+1) := .inl Ht.symm
      have M2:=gb (x:=x1) (k:=0) (F:=fun _=>False) (b := .loop ⟨.ready,none,fn,env,ps.toList,Ja,body,x.S.length⟩) PG Tg W0
      generalize zk:x1.fresh (((x.w.at n).alloc (.deferred (some []))).alloc (.loop { state := .ready,pending:=none,fn:=b.fn,tmps:=a.tmps,params:=ps,assign:=Ja,body,defers:=x.w.heap.size })) (x.S.length+1) 0 (fun _=>False) (.loop ⟨.ready,none,fn,env,ps.toList,Ja,body,x.S.length⟩)=x2 at M2
      have C0:x2.S=x.S++[.defer,.loop ⟨.ready,none,fn,env,ps.toList,Ja,body,x.S.length⟩]:=by
       rw[← zk]
       show cW x1.S (x.S.length+1) _=_
       rw[← Ht,vD,Su]
       simp
      have hw2:x2.w=((x.w.at n).alloc (.deferred (some []))).alloc (.loop { state := .ready,pending:=none,fn:=b.fn,tmps:=a.tmps,params:=ps,assign:=Ja,body,defers:=x.w.heap.size }):=by rw[← zk]; rfl
      have hμ2:x2.μ (x.S.length+1)=x.w.heap.size+1:=by
       rw[← zk]
       show (if _ then x1.w.heap.size else _)=_
       rw[if_pos rfl,G6]
       simp[World.at]
      have hμ2':x2.μ x.S.length=x.w.heap.size:=by
       rw[← zk]
       show (if _ then _ else x1.μ x.S.length)=_
       rw[if_neg (by omega),hμ1]
      have MM:=(Mn.trans M1).trans M2
      have hR2:Rel x2:=by
       have:=iZ (x:=x1) (k:=0) (F:=fun _=>False) (b := .loop ⟨.ready,none,fn,env,ps.toList,Ja,body,x.S.length⟩) PG Tg W0 (by simp) (.inr (.inr (.inl ⟨rfl,by simp,?_⟩)))
       ·rw[zk] at this; exact this
       ·rw[zk]
        refine⟨rfl,rfl,K9,he.mono MM,by simp,rfl,rfl,hμ2'.symm,?_⟩
        rw[C0]
        simp
      have Md:oB n0 x2 (x.S.length::ds) ({ target := .collected x.w.heap.size,args:=#[] }::a.defers):=by
       obtain⟨q1,q2,q3⟩:=hd.mono MM
       refine⟨by rw[List.map_cons,hμ2',q1],List.nodup_cons.2 ⟨fun hm => ?_,q2⟩,fun id hid => ?_⟩
       ·have:=(List.getElem?_eq_some_iff.1 (hd.2.2 _ hm).2.1).1
        omega
       ·rcases List.mem_cons.1 hid with rfl | hid
        ·refine⟨rW,by rw[C0]; simp,?_⟩
         rw[hμ2',hw2]
         have:((x.w.at n).alloc (.deferred (some []))).heap.size=x.w.heap.size+1:=by simp[World.at]
         rw[(ew _ _).lt (by omega)]
         exact(ew (x.w.at n) _).new
        ·exact q3 id hid
      have iV:eR x2 (fs++[.zx (x.S.length+1)]++vs) (vfs++#[.func (.yield (x.w.heap.size+1)) #[] #[]]++vcs):=by
       have e1:eR x2 fs vfs:=eR.mono MM ⟨k1,k3⟩
       have e2:eR x2 vs vcs:=eR.mono MM ⟨k2,k4⟩
       refine jf (jf e1 ⟨rfl,fun j c hj => ?_⟩) e2
       cases j with
       | zero =>
        simp only[List.getElem?_cons_zero,Option.some.injEq] at hj
        subst hj
        show RV x2 _ (.func (.yield (x.w.heap.size+1)) #[] #[])
        rw[← hμ2]
        exact .zx (r:=⟨.ready,none,fn,env,ps.toList,Ja,body,x.S.length⟩) (by rw[C0]; simp)
       | succ j=>simp at hj
      obtain⟨⟨rY,cd,La,Sn⟩,aaG⟩:=hc _ _ _ _ _ h1 x2 _ hR2 C0 iV
      obtain⟨es,hstep⟩:=CL (P:=P) (b:=b) (a:=a) (k:=k) (cs:=cs) (w:=x.w.at n) (g:=f) (ps:=ps) (assign:=Ja) (body:=body) hk hro hv La Sn (hP.count g rY La)
      refine⟨_,_,_,es,hstep,?_⟩
      have Tn:=aaG (b.atR { a with defers:={ target := .collected x.w.heap.size,args:=#[] }::a.defers } (.inRangeFunc (x.w.heap.size+1)::k)) cs fun y u hp => ?_
      ·rw[hw2] at Tn
       exact Tn
      obtain⟨hyS,hyR,Sc,-⟩:=hp
      subst hyS
      rw[finish_atR_inRangeFunc]
      have MY:=MM.trans Sc
      split at h
      ·rename_i r hr
       split at h
       ·cases h
       ·rename_i ZJ
        have hμy:y.μ (x.S.length+1)=x.w.heap.size+1:=by
         rw[(Sc.c9 _ _ (show x2.S[x.S.length+1]? = some (.loop ⟨.ready,none,fn,env,ps.toList,Ja,body,x.S.length⟩) by rw[C0]; simp) rfl).1,hμ2]
        obtain⟨lo,l1,l2,l3,-⟩:=oP hyR hr
        rw[hμy] at l1
        obtain⟨z1,z2⟩:=x4 hyR hr (by rw[hμy]; exact l1) .exhausted r.gT
        have hwz:(y.qR (x.S.length+1) (.loop { lo with state := .exhausted,pending:=r.gT }) (.loop { r with st := .exhausted,gT:=r.gT })).w=bD y.w (x.w.heap.size+1) (.loop { lo with state := .exhausted,pending:=r.gT }):=by
         show bD y.w (y.μ _) _=_
         rw[hμy]
        have hSz:(y.qR (x.S.length+1) (.loop { lo with state := .exhausted,pending:=r.gT }) (.loop { r with st := .exhausted,gT:=r.gT })).S=y.S.set (x.S.length+1) (.loop { r with st := .exhausted }):=rfl
        generalize y.qR (x.S.length+1) (.loop { lo with state := .exhausted,pending:=r.gT }) (.loop { r with st := .exhausted,gT:=r.gT })=z at z1 z2 hwz hSz
        have MZ:=MY.trans z2
        refine fK hP fun n2 => ?_
        have ZF:(Instr.endLoop (x.w.heap.size+1)).run P (y.w.at n2) = .ok r.gT (z.w.at n2):=by
         have hg:=fV (P:=P) (w:=y.w.at n2) (show (y.w.at n2).heap[x.w.heap.size+1]? = _ from l1) (by simp)
         have hs:=gX (P:=P) (w:=y.w.at n2) (o := .loop { lo with state := .exhausted,pending:=r.gT }) (show (y.w.at n2).heap[x.w.heap.size+1]? = _ from l1) (by simp)
         have hb:(lo.state==LoopState.busy)=false:=by rw[l2]; simpa using ZJ
         simp only[Instr.endLoop,Instr.getLoop,Sem.run_bind,hg,Result.andThen_ok,Sem.run_pure,hb,Bool.false_eq_true,if_false,hs,l3]
         rw[hwz]
         rfl
        obtain⟨Sz,vZ⟩:=ER (P:=P) (b:=b) (a:={ a with defers:={ target := .collected x.w.heap.size,args:=#[] }::a.defers }) (k:=k) (cs:=cs) ZF
        refine⟨_,_,_,Sz,vZ,Dk ?_ n2⟩
        have qV:=hn z { a with defers:={ target := .collected x.w.heap.size,args:=#[] }::a.defers } (x.S.length::ds)
        split at h
        ·rename_i XP
         simp only[Option.some.injEq,Prod.mk.injEq] at h
         obtain⟨rfl,rfl,rfl⟩:=h
         rw[XP]
         exact qV hSz z1 MZ (he.mono MZ) ((Md.mono Sc).mono z2)
        ·rename_i XP
         simp only[Option.some.injEq,Prod.mk.injEq] at h
         obtain⟨rfl,rfl,rfl⟩:=h
         rw[XP]
         exact qV hSz z1 MZ (he.mono MZ) ((Md.mono Sc).mono z2) k
        ·rename_i e' XP
         simp only[Option.some.injEq,Prod.mk.injEq] at h
         obtain⟨rfl,rfl,rfl⟩:=h
         rw[XP]
         exact qV hSz z1 MZ (he.mono MZ) ((Md.mono Sc).mono z2) k rfl
        ·cases h
      ·cases h
     ·cases h
   ·cases h
end Go.Di
end
section
namespace Go.Di
open Go Go.Conc Go.Co
variable {P:Program} {af:Machine→Trace→Prop} {ty:eS} {x:Cx} {aD:bq} {call:bg} {yf:dF}
theorem s9 (h:∀ id ops draw,sM P af ty aD call yf id ops draw):∀ c,xX P af ty aD call yf c:=by
 intro c
 induction c with
 | region id ops draw=>exact h id ops draw
 | seq a b iha ihb=>exact⟨iha,ihb⟩
 | cond o a b iha ihb=>exact⟨iha,ihb⟩
 | block id c ih=>exact ih
 | loop c ih=>exact ih
 | scope c ih=>exact ih
 | _=>trivial
def Jd (tmps:Array Value):ResultVar→Sem Value
 | .tmp t=>pure (tmps.getD t undef)
 | .cell a t=>do loadVar t (← asAddr (tmps.getD a undef))
theorem Gs (fn:Func) (tmps:Array Value):results fn tmps=(do let vs ← fn.results.mapM (Jd tmps); pure (if h:vs.size=1 then vs[0] else .tuple vs)):=by
 have:(fun | .tmp t=>pure (tmps.getD t undef) | .cell a t=>do loadVar t (← asAddr (tmps.getD a undef)):ResultVar→Sem Value)=Jd tmps:=by
  funext r; cases r<;>rfl
 rw[← this]
 rfl
theorem Cn (dc:gE P ty) {env:List DV} {tmps:Array Value} (hR:Rel x) (he:eR x env tmps):∀ {rs:List ResultVar} {l:List DV},oq ty env x.S rs=some l →
  ∃ vs:List Value,(rs.mapM (Jd tmps)).run P x.w = .ok vs x.w∧eR x l vs.toArray
 | [],l,h=>by
  simp only[oq,Option.some.injEq] at h
  subst h
  exact⟨[],rfl,rfl,by simp⟩
 | .tmp t::rs,l,h=>by
  simp only[oq,Option.map_eq_some_iff] at h
  obtain⟨l',h1,rfl⟩:=h
  obtain⟨vs,h2,h3,h4⟩:=Cn dc hR he h1
  have hv:RV x (env.getD t aV) (tmps.getD t undef):=ru (a:=⟨tmps,[]⟩) he (.tmp t) _ rfl
  refine⟨tmps.getD t undef::vs,by simp only[List.mapM_cons,Jd,Sem.run_bind,Sem.run_pure,Result.andThen_ok,h2],by simpa using h3,fun j c hc => ?_⟩
  cases j with
  | zero=>simp only[List.getElem?_cons_zero,Option.some.injEq] at hc; subst hc; exact hv
  | succ j=>simpa [Array.getD_eq_getD_getElem?] using h4 j c (by simpa using hc)
 | .cell a t::rs,l,h=>by
  unfold oq at h
  split at h
  ·rename_i d l' h0 h1
   cases h
   obtain⟨vs,h2,h3,h4⟩:=Cn dc hR he h1
   have hv:RV x (env.getD a aV) (tmps.getD a undef):=ru (a:=⟨tmps,[]⟩) he (.tmp a) _ rfl
   obtain⟨v,h5,h6⟩:=Em dc hR hv h0
   have hrun:(Jd tmps (.cell a t)).run P x.w = .ok v x.w:=by
    show (do loadVar t (← asAddr (tmps.getD a undef)):Sem Value).run P x.w=_
    generalize tmps.getD a undef=u at hv h5
    unfold gY at h0
    generalize env.getD a aV=da at hv h0
    split at h0
    ·cases hv; simpa [Instr.loadAt,Instr.sureAddr,asAddr] using h5
    ·cases hv; simpa [Instr.loadAt,Instr.sureAddr,asAddr] using h5
    ·split at h0
     ·rename_i hop
      obtain⟨hS,Bt⟩:=iJ hop
      cases hv with
      | er wD _ hA =>
       rw[hS] at wD
       cases wD
       rw[hA Bt] at h5 ⊢
       simpa [Instr.loadAt,Instr.sureAddr,asAddr] using h5
     ·cases h0
    ·cases h0
   refine⟨v::vs,by simp only[List.mapM_cons,Sem.run_bind,hrun,Result.andThen_ok,h2,Sem.run_pure],by simpa using h3,fun j c hc => ?_⟩
   cases j with
   | zero=>simp only[List.getElem?_cons_zero,Option.some.injEq] at hc; subst hc; exact h6
   | succ j=>simpa [Array.getD_eq_getD_getElem?] using h4 j c (by simpa using hc)
  ·cases h
theorem yN (dc:gE P ty) {fn:Func} {env:List DV} {tmps:Array Value} (hR:Rel x) (he:eR x env tmps) {l:List DV} (h:oq ty env x.S fn.results.toList=some l) :
  ∃ v,(results fn tmps).run P x.w = .ok v x.w∧RV x (oneOf l) v:=by
 obtain⟨vs,h1,h2,h3⟩:=Cn dc hR he h
 have hm:(fn.results.mapM (Jd tmps)).run P x.w = .ok vs.toArray x.w:=by
  rw[Array.mapM_eq_mapM_toList]
  simp only[Sem.run_map,h1,Result.andThen_ok]
 refine⟨if h:vs.toArray.size=1 then vs.toArray[0] else .tuple vs.toArray,?_,?_⟩
 ·rw[Gs]
  simp only[Sem.run_bind,hm,Result.andThen_ok,Sem.run_pure]
 ·match l,vs,h2,h3 with
  | [],[],_,_=>exact .fB rfl (by simp)
  | [d],[v],_,h3=>exact h3 0 d rfl
  | d::e::l,v::u::vs,h2,h3=>exact .fB (by simpa using h2) h3
  | [],_::_,h2,_=>simp at h2
  | [_],[],h2,_=>simp at h2
  | [_],_::_::_,h2,_=>simp at h2
  | _::_::_,[],h2,_=>simp at h2
  | _::_::_,[_],h2,_=>simp at h2
theorem N0 {b:Frame} {a:Act} {todo:List Item} {c:Frame} {cs:List Frame} {w:World} {fn:Func} {v:Value} (hn:b.kind = .normal) (hd:a.defers=[]) (hf:P.funcs[b.fn]? = some fn) (hr:(results fn a.tmps).run P w = .ok v w) :
  ∃ es,stepG P true (G { b.at a todo with mode := .returning } (c::cs)) w = .go (G (c.finish v) cs) w es:=by
 simp only[G,stepG,unwind,doReturn,Frame.at,hn,hd,hf,Sem.runT_eq,hr,GStep.after]
 exact⟨_,rfl⟩
theorem Ig {b:Frame} {a:Act} {todo:List Item} {cs:List Frame} {w w':World} {r:Nat} {ds:List Deferred} (hd:a.defers={ target := .collected r,args:=#[] }::ds) (hr:(Instr.takeDeferred r).run P w = .ok [] w') :
  ∃ es,stepG P true (G { b.at a todo with mode := .returning } cs) w = .go (G { b.at { a with defers:=ds } todo with mode := .returning } cs) w' es:=by
 simp only[G,stepG,unwind,Frame.at,hd,Sem.runT_eq,hr,GStep.after,List.nil_append]
 exact⟨_,rfl⟩
theorem HR {x0:Cx} (M:bI x0 x) (hR:Rel x) {id:Nat} (hid:x0.S.length≤id) (hS:x.S[id]? = some .defer) :
  Rel { x with w:=bD x.w (x.μ id) (.deferred none) }∧bI x0 { x with w:=bD x.w (x.μ id) (.deferred none) }∧∀ d v,RV x d v→RV { x with w:=bD x.w (x.μ id) (.deferred none) } d v:=by
 have gM:=aK hS (show DB.defer ≠ .none by simp)
 have YF:∀ i,Live x0.S i→i≠id:=by
  rintro i ⟨c,hc,-⟩ rfl
  have:=(List.getElem?_eq_some_iff.1 hc).1
  omega
 have MQ:x0.w.heap.size≤x.μ id:=by
  rcases M.live id gM with ⟨h,-⟩ | h
  ·exact absurd rfl (YF id h)
  ·exact h
 have lT:∀ b,b≠x.μ id→(bD x.w (x.μ id) (.deferred none)).heap[b]? = x.w.heap[b]? := fun b hb=>eA _ _ _ hb
 have Fo:∀ b o,x.Fz b o→(bD x.w (x.μ id) (.deferred none)).cell? ⟨b,o,none⟩=x.w.cell? ⟨b,o,none⟩:=fun b o h=>cell_of_block (lT b (by rintro rfl; exact hR.MS hS rfl o h)) o
 have KI:∀ d v,RV x d v→RV { x with w:=bD x.w (x.μ id) (.deferred none) } d v:=by
  intro d v h
  induction h with
  | val h=>exact .val h
  | agg h _ ih=>exact .agg h ih
  | fB h _ ih=>exact .fB h ih
  | sl hv _ h1 h2 h3 hsp h4 ih=>exact .sl (View.mono (x:=x) (y:={ x with w:=bD x.w (x.μ id) (.deferred none) }) (fun b o h=>⟨h,Fo b o h⟩) hv) ih h1 h2 h3 hsp h4
  | ptr h=>exact .ptr h
  | dB hv _ ih=>exact .dB (View.mono (x:=x) (y:={ x with w:=bD x.w (x.μ id) (.deferred none) }) (fun b o h=>⟨h,Fo b o h⟩) hv) ih
  | fn h1 h2 _ _ I2 KE=>exact .fn h1 h2 I2 KE
  | map h=>exact .map h
  | zx h=>exact .zx h
  | gQ h h1 h2=>exact .gQ h h1 h2
  | er h h1 h2=>exact .er h h1 h2
 have hne:∀ i b,x.S[i]? = some b→b ≠ .none→i≠id→x.μ i≠x.μ id:=fun i b hi hb h e=>h (hR.inj i id (aK hi hb) gM e)
 obtain⟨ob,hob,-⟩:=hR.c9 id _ hS rfl
 refine⟨⟨fun i l hl => ?_,fun i e s n hl => ?_,fun i b hb Lp => ?_,hR.inj,fun b o h => ?_,hR.sep,hR.lM,fun i e s l z hl => ?_⟩,⟨?_,M.env,fun b o h=>⟨(M.fz b o h).1,?_⟩,M.IZ,fun b hb hn => ?_,M.len,M.cells,fun i b hb Lp => ?_,M.cT,M.live,M.ops⟩,KI⟩
 ·obtain⟨arr,e,h1,h2,h3⟩:=hR.cells i l hl
  exact⟨arr,e,(lT _ (hne i _ hl (by simp) (by rintro rfl; rw[hS] at hl; cases hl))).trans h1,h2,fun j c hc=>KI _ _ (h3 j c hc)⟩
 ·obtain⟨arr,h1,h2⟩:=hR.cT i e s n hl
  exact⟨arr,(lT _ (hne i _ hl (by simp) (by rintro rfl; rw[hS] at hl; cases hl))).trans h1,h2⟩
 ·by_cases h:i=id
  ·subst h
   rw[hS] at hb
   cases hb
   exact⟨_,tI _ _ _ _ hob,trivial⟩
  ·obtain⟨o,h1,h2⟩:=hR.c9 i b hb Lp
   refine⟨o,(lT _ (hne i _ hb (ei Lp) h)).trans h1,?_⟩
   cases b<;>cases o<;>simp only[oz] at h2 ⊢<;>first | exact h2 | trivial | (obtain⟨q1,q2,q3,q4,q5⟩:=h2; exact⟨q1,q2,q3,⟨q4.1,fun j c hc=>KI _ _ (q4.2 j c hc)⟩,q5⟩)
 ·obtain⟨v,hv⟩:=hR.wE b o h
  exact⟨v,(Fo b o h).trans hv⟩
 ·obtain⟨arr,h1,h2,h3,h4,h5,h6⟩:=hR.ops i e s l z hl
  exact⟨arr,(lT _ (hne i _ hl (by simp) (by rintro rfl; rw[hS] at hl; cases hl))).trans h1,h2,h3,h4,fun j c hc=>⟨(h5 j c hc).1,KI _ _ (h5 j c hc).2⟩,h6⟩
 ·show _≤(bD x.w _ _).heap.size
  simp only[bD,Array.size_setIfInBounds]
  exact M.size
 ·exact(Fo b o (M.fz b o h).1).trans (M.fz b o h).2
 ·exact(lT b (by omega)).trans (M.old b hb hn)
 ·obtain⟨q1,q2,q3⟩:=M.c9 i b hb Lp
  refine⟨q1,q2,fun hd=>(lT _ ?_).trans (q3 hd)⟩
  rw[← q1]
  obtain⟨b',q4,q5⟩:=q2
  exact hne i b' q4 (ei (oQ q5).2) (YF i (aK hb (ei Lp)))
theorem Ej (hP:Plain P) (dc:gE P ty) {x0:Cx} {b:Frame} {todo:List Item} {c:Frame} {cs:List Frame} {fn:Func} {env:List DV} {l:List DV} (hb:b.kind = .normal) (hf:P.funcs[b.fn]? = some fn) {Sr:ak} :
  ∀ (ds:List Nat) {a:Act} {x:Cx},x.S=Sr→Rel x→bI x0 x→eR x env a.tmps→oB x0.S.length x ds a.defers→oq ty env Sr fn.results.toList=some l →
   (∀ y v,y.S=Sr→Rel y→bI x0 y→RV y (oneOf l) v→fH P af () (G (c.finish v) cs) y.w)→fH P af () (G { b.at a todo with mode := .returning } (c::cs)) x.w
 | [],a,x,hS,hR,hM,he,hd,hr,hn=>by
  refine fK hP fun n => ?_
  have Fq:a.defers=[]:=hd.1
  obtain⟨v,h1,h2⟩:=yN (x:=x.dr n) dc (hR.dr n) (he.mono (dg x n)) (l:=l) (by show oq ty env x.S _=_; rw[hS]; exact hr)
  obtain⟨es,hst⟩:=N0 (P:=P) (b:=b) (a:=a) (todo:=todo) (c:=c) (cs:=cs) hb Fq hf h1
  exact⟨_,_,_,es,hst,hn (x.dr n) v hS (hR.dr n) (hM.trans (dg x n)) h2⟩
 | id::ds,a,x,hS,hR,hM,he,hd,hr,hn=>by
  obtain⟨q1,q2,q3⟩:=hd
  obtain⟨r1,r2,r3⟩:=q3 id (by simp)
  refine fK hP fun n => ?_
  have jG:=hR.dr n
  have Sw:=hM.trans (dg x n)
  obtain⟨t1,t2,t3⟩:=HR (x:=x.dr n) Sw jG r1 r2
  have hg:=fV (P:=P) (w:=x.w.at n) (show (x.w.at n).heap[x.μ id]? = _ from r3) (by simp)
  have hs:=gX (P:=P) (w:=x.w.at n) (o := .deferred none) (show (x.w.at n).heap[x.μ id]? = _ from r3) (by simp)
  have Hs:(Instr.takeDeferred (x.μ id)).run P (x.w.at n) = .ok [] (bD (x.w.at n) (x.μ id) (.deferred none)):=by
   simp only[Instr.takeDeferred,Sem.run_bind,hg,Result.andThen_ok,hs,Sem.run_pure]
  obtain⟨es,hst⟩:=Ig (P:=P) (b:=b) (a:=a) (todo:=todo) (cs:=c::cs) (ds:=ds.map fun id=>{ target := .collected (x.μ id),args:=#[] }) (by rw[q1]; rfl) Hs
  refine⟨_,_,_,es,hst,?_⟩
  have O8:=List.nodup_cons.1 q2
  exact Ej hP dc hb hf ds (x:={ x.dr n with w:=bD (x.w.at n) (x.μ id) (.deferred none) }) (a:={ a with defers:=ds.map fun id=>{ target := .collected (x.μ id),args:=#[] } }) hS t1 t2 ⟨he.1,fun j c hc=>t3 _ _ (RV.mono (dg x n) (he.2 j c hc))⟩
   ⟨rfl,O8.2,fun i hi=>by
    obtain⟨u1,u2,u3⟩:=q3 i (by simp[hi])
    have hne:x.μ i≠x.μ id:=fun e=>O8.1 (hR.inj i id (aK u2 (by simp)) (aK r2 (by simp)) e▸hi)
    exact⟨u1,u2,(eA _ _ _ hne).trans u3⟩⟩ hr hn
theorem OY (hP:Plain P) (dc:gE P ty) (hc:gW P af call) (iR:∀ id ops draw,sM P af ty aD call yf id ops draw) {L:Nat} {f:FuncId} {fn:Func} (hf:P.funcs[f]? = some fn) {args:List DV} {S S':ak} {v:DV} (h:qE P ty aD call yf L f fn args S=some (v,S'))
  {vals:Array Value} (hR:Rel x) (hS:x.S=S) (ha:eR x args vals):dh P af x f vals fun y u=>y.S=S'∧Rel y∧bI x y∧RV y v u:=by
 subst hS
 unfold qE at h
 split at h
 ·rename_i c hb
  refine⟨⟨fn,c,hf,hb⟩,fun fr cs hn => ?_⟩
  rw[enter_at vals hf hb,← Frame.atR_of_none (b:=base f) rfl]
  have he:eR x (args++List.replicate (fn.ntmps-args.length) aV) (vals++Array.replicate (fn.ntmps-vals.size) undef):=by
   refine jf ha ⟨by simp[ha.1],fun j c hc => ?_⟩
   rw[List.getElem?_replicate] at hc
   split at hc
   ·rename_i hj
    cases hc
    have:j<fn.ntmps-vals.size:=by rw[ha.1]; exact hj
    have e:(Array.replicate (fn.ntmps-vals.size) undef).getD j undef=undef:=by simp[Array.getD_eq_getD_getElem?,this]
    rw[e]
    exact .val rfl
   ·cases hc
  have key:∀ e az S1,bO P ty aD call yf L f false c (args++List.replicate (fn.ntmps-args.length) aV) x.S=some (e,az,S1)→(e = .normal∨e = .ret)→(oq ty az S1 fn.results.toList).map (fun l=>(oneOf l,S1))=some (v,S') →
    fH P af () (G ((base f).atR { tmps:=vals++Array.replicate (fn.ntmps-vals.size) undef,defers:=[] } [.code c]) (fr::cs)) x.w:=by
   intro e az S1 h1 XX h2
   simp only[Option.map_eq_some_iff,Prod.mk.injEq] at h2
   obtain⟨l,h3,rfl,rfl⟩:=h2
   refine tw (n0:=x.S.length) (ds:=[]) (b:=base f) (cs:=fr::cs) (gJ:=false) hP hc (by simp[base]) rfl (fun _=>rfl) c (s9 iR c) h1 hR he (uS _ _) (Nat.le_refl _) fun y a' fD q1 q2 q3 q4 q5 => ?_
   have gU:∀ todo,fH P af () (G { (base f).at a' todo with mode := .returning } (fr::cs)) y.w:=fun todo =>
    Ej hP dc (x0:=x) (b:=base f) (env:=az) (l:=l) (Sr:=S1) rfl hf fD q1 q2 q3 q4 q5 h3 fun z u r1 r2 r3 r4=>hn z u ⟨r1,r2,r3,r4⟩
   rcases XX with rfl | rfl
   ·show fH P af () (G ((base f).atR a' []) (fr::cs)) y.w
    rw[Frame.atR_of_none (b:=base f) rfl]
    exact dL hP (fun w=>⟨_,stepG_end⟩) (gU _)
   ·intro k'
    rw[Frame.atR_of_none (b:=base f) rfl]
    exact dL hP (fun w=>⟨_,stepG_ret'⟩) (gU _)
  split at h
  ·rename_i az S1 h1
   exact key _ _ _ h1 (.inl rfl) h
  ·rename_i az S1 h1
   exact key _ _ _ h1 (.inr rfl) h
  ·cases h
 ·cases h
theorem HZ:∀ {ts:List Tmp} {ds:List DV} {vs:List Value} {env:List DV} {tmps:Array Value},eR x env tmps→vs.length=ds.length→(∀ (j:Nat) (c:DV),ds[j]? = some c→RV x c (vs.getD j undef)) →
  eR x (xz env (ts.zip ds)) ((ts.zip vs).foldl (fun tmps (p:Tmp×Value)=>tmps.setIfInBounds p.1 p.2) tmps)
 | [],ds,vs,env,tmps,h,_,_=>by simpa [xz] using h
 | t::ts,[],[],env,tmps,h,_,_=>by simpa [xz] using h
 | t::ts,[],_::_,env,tmps,h,hl,_=>by simp at hl
 | t::ts,_::_,[],env,tmps,h,hl,_=>by simp at hl
 | t::ts,d::ds,v::vs,env,tmps,h,hl,hv=>by
  simp only[List.zip_cons_cons,xz,List.foldl_cons]
  exact HZ (H7 h (by simpa using hv 0 d rfl)) (by simpa using hl) fun j c hc=>by simpa using hv (j+1) c (by simpa using hc)
theorem N3 {b:Frame} {a:Act} {k:List Item} {cs:List Frame} {w w':World} {l:Nat} (hk:b.kind ≠ .early) (hr:b.roundOf=some l) (h:(Instr.beginRound l).run P w = .ok () w') :
  ∃ es,stepG P true (G (b.atR a (.beginRound::k)) cs) w = .go (G (b.atR a k) cs) w' es:=by
 have qx:(b.kind==CallKind.early)=false:=by simpa using hk
 simp only[G,stepG,stepG.exec,Frame.atR,hr,stepG.apply,Option.elim_some,if_true,Sem.runT_eq,Sem.run_bind,h,Result.andThen_ok,Sem.run_pure,qx,GStep.after,Frame.finish]
 exact⟨_,rfl⟩
theorem CK {b:Frame} {a:Act} {c:Frame} {cs:List Frame} {w w':World} {l:Nat} {v:Value} (hn:b.kind = .normal) (hr:b.roundOf=some l) (h:(Instr.endRound l none).run P w = .ok v w') :
  ∃ es,stepG P true (G (b.atR a []) (c::cs)) w = .go (G (c.finish v) cs) w' es:=by
 simp only[G,stepG,stepG.exec,Frame.atR,hr,Sem.runT_eq,h,GStep.after,doReturn,hn]
 exact⟨_,rfl⟩
theorem CJ {b:Frame} {a:Act} {k:List Item} {c:Frame} {cs:List Frame} {w w':World} {l:Nat} {v:Value} (hn:b.kind = .normal) (hr:b.roundOf=some l) (h:(Instr.endRound l (some .ret)).run P w = .ok v w') :
  ∃ es,stepG P true (G (b.atR a (.code .ret::k)) (c::cs)) w = .go (G (c.finish v) cs) w' es:=by
 simp only[G,stepG,stepG.exec,Frame.atR,hr,Sem.runT_eq,h,GStep.after,doReturn,hn]
 exact⟨_,rfl⟩
theorem z8 {b:Frame} {a:Act} {k:List Item} {c:Frame} {cs:List Frame} {w w':World} {l id:Nat} {v:Value} (hn:b.kind = .normal) (hr:b.roundOf=some l) (he:exitTo id k=none) (h:(Instr.endRound l (some (.exit id))).run P w = .ok v w') :
  ∃ es,stepG P true (G (b.atR a (.code (.exit id)::k)) (c::cs)) w = .go (G (c.finish v) cs) w' es:=by
 simp only[G,stepG,stepG.exec,Frame.atR,hr,he,Option.elim_none,Sem.runT_eq,h,GStep.after,doReturn,hn]
 exact⟨_,rfl⟩
theorem JG (hP:Plain P) (hc:gW P af call) (iR:∀ id ops draw,sM P af ty aD call yf id ops draw) {L:Nat}:vr P af (FP P ty aD call yf L):=by
 intro id args S v S' h x vals hR hS ha
 subst hS
 unfold FP at h
 split at h
 ·rename_i r hr
  split at h
  ·rename_i hlen
   obtain⟨lo,l1,l2,l3,l4,l5,l6,l7,l8,-⟩:=oP hR hr
   refine⟨lo,l1,by rw[l6]; simpa [ha.1] using hlen,fun fr cs hn => ?_⟩
   have C8:∀ tmps,Frame.round (x.μ id) lo.fn tmps lo.assign lo.body .normal=({ (default:Frame) with fn:=r.fn,kind := .normal,roundOf:=some (x.μ id) }:Frame).atR { tmps:=tmps,defers:=[] } [.code r.assign,.beginRound,.code r.body]:=by
    intro tmps
    simp[Frame.round,Frame.atR,l4,l7,l8]
   rw[C8]
   generalize hB:({ (default:Frame) with fn:=r.fn,kind := .normal,roundOf:=some (x.μ id) }:Frame)=B
   have Xe:B.kind = .normal:=by rw[← hB]
   have hBf:B.fn=r.fn:=by rw[← hB]
   have hBr:B.roundOf=some (x.μ id):=by rw[← hB]
   have X8:B.kind ≠ .early:=by rw[Xe]; simp
   have he:eR x (xz r.env (r.params.zip args)) ((lo.params.zip vals).foldl (fun tmps (t,a)=>tmps.setIfInBounds t a) lo.tmps):=by
    have:=HZ (ts:=r.params) (ds:=args) (vs:=vals.toList) l5 (by simpa using ha.1) fun j c hc=>by simpa [Array.getD_eq_getD_getElem?,List.getD_eq_getElem?_getD] using ha.2 j c hc
    rw[l6,← Array.foldl_toList]
    simpa using this
   split at h
   ·rename_i YX S1 h1
    split at h
    ·rename_i r1 tY
     split at h
     ·rename_i hst
      split at h
      ·rename_i e acu S2 h2
       split at h
       ·rename_i r2 O7
        refine tw (n0:=0) (ds:=[]) (b:=B) (cs:=fr::cs) (gJ:=true) hP hc X8 hBf (by simp) r.assign (s9 iR _) h1 hR he (uS _ _) (Nat.zero_le _) fun y a1 ds1 q1 q2 q3 q4 q5 => ?_
        subst q1
        obtain⟨R8,m1,m2,m3,-⟩:=oP q2 tY
        have hμy:y.μ id=x.μ id:=(q3.c9 id _ hr rfl).1
        refine fK hP fun n => ?_
        obtain⟨z1,z2⟩:=x4 (q2.dr n) (id:=id) tY (lo:=R8) m1 .busy r1.gT
        have aay:({ R8 with state := .busy,pending:=r1.gT }:Loop)={ R8 with state := .busy }:=by rw[← m3]
        rw[aay] at z1 z2
        have aaM:(Instr.beginRound (x.μ id)).run P (y.w.at n) = .ok () (bD (y.w.at n) (x.μ id) (.loop { R8 with state := .busy })):=by
         have hg:=fV (P:=P) (w:=y.w.at n) (show (y.w.at n).heap[x.μ id]? = _ from(by rw[← hμy]; exact m1)) (by simp)
         have hs:=gX (P:=P) (w:=y.w.at n) (o := .loop { R8 with state := .busy }) (show (y.w.at n).heap[x.μ id]? = _ from(by rw[← hμy]; exact m1)) (by simp)
         have WY:R8.state = .ready:=by rw[m2]; exact hst
         simp only[Instr.beginRound,Instr.getLoop,Sem.run_bind,hg,Result.andThen_ok,Sem.run_pure,hs,WY]
        obtain⟨es,hstep⟩:=N3 (P:=P) (a:=a1) (k:=[.code r.body]) (cs:=fr::cs) X8 hBr aaM
        refine⟨_,_,_,es,hstep,?_⟩
        generalize hz:(y.dr n).qR id (.loop { R8 with state := .busy }) (.loop { r1 with st := .busy,gT:=r1.gT })=z at z1 z2
        have hzS:z.S=y.S.set id (.loop { r1 with st := .busy }):=by rw[← hz]; rfl
        have hzw:z.w=bD (y.w.at n) (x.μ id) (.loop { R8 with state := .busy }):=by
         rw[← hz]
         show bD (y.w.at n) (y.μ id) _=_
         rw[hμy]
        rw[← hzw]
        have MYZ:=(dg y n).trans z2
        rw[← hzS] at h2
        refine tw (n0:=0) (ds:=ds1) (b:=B) (cs:=fr::cs) (k:=[]) (gJ:=true) hP hc X8 hBf (by simp) r.body (s9 iR _) h2 z1 (q4.mono MYZ) (q5.mono MYZ) (Nat.zero_le _) fun u a2 ds2 p1 p2 p3 p4 p5 => ?_
        subst p1
        obtain⟨TH,n1,-⟩:=oP p2 O7
        have hμu:u.μ id=x.μ id:=by
         have:=(p3.c9 id _ (show z.S[id]? = some (.loop { r1 with st := .busy }) by rw[hzS,eG tY,if_pos rfl]) rfl).1
         rw[this,← hz]
         exact hμy
        have MXU:=(q3.trans MYZ).trans p3
        have fin:∀ st pd,∀ n2,(Instr.endRound (x.μ id) pd).run P (u.w.at n2) = .ok (.bool pd.isNone) (bD (u.w.at n2) (x.μ id) (.loop { TH with state:=if pd.isNone then .ready else .done,pending:=pd }))→st=(if pd.isNone then LoopState.ready else .done)→S'=u.S.set id (.loop { r2 with st:=st,gT:=pd })→v = .val (.bool pd.isNone) →
          fH P af () (G (fr.finish (.bool pd.isNone)) cs) (bD (u.w.at n2) (x.μ id) (.loop { TH with state:=if pd.isNone then .ready else .done,pending:=pd })):=by
         intro st pd n2 _ Ln wD hv
         obtain⟨y1,y2⟩:=x4 (p2.dr n2) (id:=id) O7 (lo:=TH) n1 st pd
         have:=hn ((u.dr n2).qR id (.loop { TH with state:=st,pending:=pd }) (.loop { r2 with st:=st,gT:=pd })) (.bool pd.isNone) ⟨wD.symm,y1,(MXU.trans (dg u n2)).trans y2,by rw[hv]; exact .val rfl⟩
         have e:((u.dr n2).qR id (.loop { TH with state:=st,pending:=pd }) (.loop { r2 with st:=st,gT:=pd })).w=bD (u.w.at n2) (x.μ id) (.loop { TH with state:=if pd.isNone then .ready else .done,pending:=pd }):=by
          show bD (u.w.at n2) (u.μ id) _=_
          rw[hμu,Ln]
         rw[e] at this
         exact this
        have ot:∀ pd n2,(Instr.endRound (x.μ id) pd).run P (u.w.at n2) = .ok (.bool pd.isNone) (bD (u.w.at n2) (x.μ id) (.loop { TH with state:=if pd.isNone then .ready else .done,pending:=pd })):=by
         intro pd n2
         have hg:=fV (P:=P) (w:=u.w.at n2) (show (u.w.at n2).heap[x.μ id]? = _ from(by rw[← hμu]; exact n1)) (by simp)
         have hs:=fun o=>gX (P:=P) (w:=u.w.at n2) (o:=o) (show (u.w.at n2).heap[x.μ id]? = _ from(by rw[← hμu]; exact n1)) (by simp)
         simp only[Instr.endRound,Instr.getLoop,Sem.run_bind,hg,Result.andThen_ok,Sem.run_pure,hs]
        cases e with
        | normal =>
         simp only[Option.some.injEq,Prod.mk.injEq] at h
         refine fK hP fun n2 => ?_
         obtain⟨Sz,vZ⟩:=CK (P:=P) (a:=a2) (c:=fr) (cs:=cs) Xe hBr (ot none n2)
         exact⟨_,_,_,Sz,vZ,fin .ready none n2 (ot none n2) rfl h.2.symm h.1.symm⟩
        | ret =>
         simp only[Option.some.injEq,Prod.mk.injEq] at h
         intro k'
         refine fK hP fun n2 => ?_
         obtain⟨Sz,vZ⟩:=CJ (P:=P) (a:=a2) (k:=k') (c:=fr) (cs:=cs) Xe hBr (ot (some .ret) n2)
         exact⟨_,_,_,Sz,vZ,fin .done (some .ret) n2 (ot (some .ret) n2) rfl h.2.symm h.1.symm⟩
        | exit i =>
         simp only[Option.some.injEq,Prod.mk.injEq] at h
         intro k' qx
         refine fK hP fun n2 => ?_
         obtain⟨Sz,vZ⟩:=z8 (P:=P) (a:=a2) (k:=k') (c:=fr) (cs:=cs) Xe hBr qx (ot (some (.exit i)) n2)
         exact⟨_,_,_,Sz,vZ,fin .done (some (.exit i)) n2 (ot (some (.exit i)) n2) rfl h.2.symm h.1.symm⟩
       ·cases h
      ·cases h
     ·cases h
    ·cases h
   ·cases h
  ·cases h
 ·cases h
end Go.Di
end
section
namespace Go.Di
open Go Go.Conc Go.Co
open Go.ConcN (sumTo sumTo_upd sumTo_congr le_sumTo upd upd_same upd_ne)
variable {P:Program} {af:Machine→Trace→Prop} {ty:eS} {x:Cx} {aD:bq} {call:bg} {yf:dF}
def Closed (ops:Array Oper) (L:Nat→Bool):Prop:=∀ j o,ops[j]? = some o→L j=true→∀ e∈o.after,Region.binds .any e=true→L e.on=true
theorem qK {ops:Array Oper} (mc:∀ i o,ops[i]? = some o→∀ e∈o.after,Region.binds .any e=true→e.on<i) {σ:Type} (T:List Nat→σ→Prop) (J:(Nat→Bool)→σ→Prop)
  (hop:∀ L s i o,J L s→Closed ops L→ops[i]? = some o→L i=false→(∀ e∈o.after,Region.binds .any e=true→L e.on=true)→∀ rest,(∀ s',J (upd L i true) s'→T rest s')→T (i::rest) s)
  (ot:∀ L s,J L s→(∀ i,i<ops.size→L i=true)→T [] s) (t:Nat) (s:σ) (h0:J (fun _=>false) s):T (Region.linearise .any ops t) s:=by
 have key:∀ (fuel t:Nat) (listed:Array Bool) (s:σ),listed.size=ops.size→sumTo ops.size (fun j=>if listed.getD j true then 0 else 1)=fuel→J (fun j=>listed.getD j false) s→Closed ops (fun j=>listed.getD j false)→T (Region.linearise.go .any ops fuel t listed []) s:=by
  intro fuel
  induction fuel with
  | zero =>
   intro t listed s hsz FB hJ _
   refine ot _ s hJ fun i hi => ?_
   have h1:=le_sumTo (f:=fun j=>if listed.getD j true then 0 else 1) hi
   rw[FB] at h1
   have h2:listed.getD i true=true:=by
    cases h:listed.getD i true with
    | true=>rfl
    | false=>simp[h] at h1
   simpa [Array.getElem?_eq_getElem (show i<listed.size by omega)] using h2
  | succ fuel ih =>
   intro t listed s hsz FB hJ tU
   simp only[Region.linearise.go]
   change T (match (Region.ready .any ops listed)[t % (Region.ready .any ops listed).length]? with
    | some i=>Region.linearise.go .any ops fuel (t / (Region.ready .any ops listed).length) (listed.setIfInBounds i true) [i]
    | none=>[].reverse) s
   cases hi:(Region.ready .any ops listed)[t % (Region.ready .any ops listed).length]? with
   | none =>
    have FC:Region.ready .any ops listed=[]:=by
     cases hr:Region.ready .any ops listed with
     | nil=>rfl
     | cons x xs =>
      rw[hr] at hi
      have hlt:t % (x::xs).length<(x::xs).length:=Nat.mod_lt _ (by simp)
      simp at hi
      simp at hlt
      omega
    refine ot _ s hJ fun i hi => ?_
    induction i using Nat.strongRecOn with
    | ind i ihi =>
     have E8:i<listed.size:=by omega
     cases hb:listed.getD i false with
     | true=>rfl
     | false =>
      have lQ:i∈Region.ready .any ops listed:=by
       refine mem_ready.2 ⟨by simpa [Array.getElem?_eq_getElem E8] using hb,ops[i],Array.getElem?_eq_getElem hi,fun e he Xc => ?_⟩
       have hlt:=mc i _ (Array.getElem?_eq_getElem hi) e he Xc
       exact ihi e.on hlt (by omega)
      rw[FC] at lQ
      cases lQ
   | some i =>
    simp only[]
    rw[linearise_go_acc,List.reverse_singleton,List.singleton_append]
    have lQ:=List.mem_of_getElem? hi
    obtain⟨XI,o,ho,di⟩:=mem_ready.1 lQ
    have W5:i<ops.size:=(Array.getElem?_eq_some_iff.1 ho).1
    have E8:i<listed.size:=by omega
    have h2:(fun j=>(listed.setIfInBounds i true).getD j false)=upd (fun j=>listed.getD j false) i true:=by
     funext j
     by_cases eB:j=i
     ·subst eB
      rw[upd_same]
      simp[Array.getElem?_setIfInBounds_self_of_lt E8]
     ·rw[upd_ne _ _ eB,getD_set_ne false (Ne.symm eB)]
    refine hop _ s i o hJ tU ho (by simpa [Array.getElem?_eq_getElem E8] using XI) (fun e he hb=>di e he hb) _ fun s' hJ'=>ih _ _ s' (by simpa using hsz) ?_ (by rw[h2]; exact hJ') ?_
    ·have h1:=sumTo_upd (fun j=>listed.getD j true) true (fun b=>if b then 0 else 1) W5
     rw[XI] at h1
     simp only[if_true,Bool.false_eq_true,if_false] at h1
     have h2:sumTo ops.size (fun j=>if (listed.setIfInBounds i true).getD j true then 0 else 1)=sumTo ops.size fun j=>if upd (fun j=>listed.getD j true) i true j then 0 else 1:=by
      refine sumTo_congr fun j _ => ?_
      by_cases eB:j=i
      ·subst eB
       rw[upd_same]
       simp[Array.getElem?_setIfInBounds_self_of_lt E8]
      ·rw[upd_ne _ _ eB,getD_set_ne true (Ne.symm eB)]
     rw[h2]
     omega
    ·rw[h2]
     intro j o' iS hj e he hb
     by_cases eB:j=i
     ·subst eB
      rw[ho] at iS
      cases iS
      by_cases Hi:e.on=j
      ·rw[Hi,upd_same]
      ·rw[upd_ne _ _ Hi]; exact di e he hb
     ·rw[upd_ne _ _ eB] at hj
      by_cases Hi:e.on=i
      ·rw[Hi,upd_same]
      ·rw[upd_ne _ _ Hi]; exact tU j o' iS hj e he hb
 refine key ops.size t (Array.replicate ops.size false) s (by simp) ?_ ?_ ?_
 ·have:∀ n,n≤ops.size→sumTo n (fun j=>if (Array.replicate ops.size false).getD j true then 0 else 1)=n:=by
   intro n
   induction n with
   | zero=>intro _; rfl
   | succ n ih =>
    intro hn
    simp only[sumTo]
    rw[ih (by omega)]
    simp[show n<ops.size by omega]
  exact this _ (Nat.le_refl _)
 ·have:(fun j=>(Array.replicate ops.size false).getD j false)=fun _=>false:=by
   funext j
   simp[Array.getD_eq_getD_getElem?,Array.getElem?_replicate]
   split<;>rfl
  rw[this]
  exact h0
 ·intro j o _ hj
  exfalso
  revert hj
  simp[Array.getD_eq_getD_getElem?,Array.getElem?_replicate]
  split<;>simp
theorem o7 (ops:Array Oper) {L:Nat→Bool} (hL:Closed ops L):∀ j i,((Region.before ops).getD j 0).testBit i=true→L j=true→L i=true:=by
 have key:∀ (l pre:List Oper) (acc:Array Nat),ops.toList=pre++l→acc.size=pre.length→(∀ j i,(acc.getD j 0).testBit i=true→L j=true→L i=true) →
   ∀ j i,((l.foldl (fun acc (o:Oper)=>acc.push (o.after.foldl (fun s e=>if Region.binds .any e then s ||| 2 ^ e.on ||| acc.getD e.on 0 else s) 0)) acc).getD j 0).testBit i=true→L j=true→L i=true:=by
  intro l
  induction l with
  | nil=>intro pre acc _ _ h; exact h
  | cons o l ih =>
   intro pre acc BI hsz h
   simp only[List.foldl_cons]
   refine ih (pre++[o]) _ (by rw[BI]; simp) (by simp[hsz]) fun j i ht hj => ?_
   have ho:ops[pre.length]? = some o:=by rw[← Array.getElem?_toList,BI]; simp
   by_cases hjs:j<acc.size
   ·refine h j i ?_ hj
    rw[Array.getD_eq_getD_getElem?,Array.getElem?_push_lt hjs] at ht
    rw[Array.getD_eq_getD_getElem?,Array.getElem?_eq_getElem hjs]
    exact ht
   ·by_cases XT:j=acc.size
    ·subst XT
     rw[Array.getD_eq_getD_getElem?,Array.getElem?_push_size,Option.getD_some] at ht
     rw[hsz] at hj
     have di:=hL _ _ ho hj
     have fold:∀ (es:List Edge) (s:Nat),(∀ e∈es,e∈o.after)→(s.testBit i=true→L i=true)→(es.foldl (fun s e=>if Region.binds .any e then s ||| 2 ^ e.on ||| acc.getD e.on 0 else s) s).testBit i=true→L i=true:=by
      intro es
      induction es with
      | nil=>intro s _ hs ht; exact hs ht
      | cons e es ihe =>
       intro s he hs ht
       simp only[List.foldl_cons] at ht
       refine ihe _ (fun e' h'=>he e' (by simp[h'])) (fun hb => ?_) ht
       split at hb
       ·rename_i Xc
        simp only[Nat.testBit_or,Bool.or_eq_true,Nat.testBit_two_pow,decide_eq_true_eq] at hb
        rcases hb with (hb | hb) | hb
        ·exact hs hb
        ·rw[← hb]; exact di e (he e (by simp)) Xc
        ·exact h _ _ hb (di e (he e (by simp)) Xc)
       ·exact hs hb
     rw[← Array.foldl_toList] at ht
     exact fold o.after.toList 0 (by simp) (by simp) ht
    ·rw[Array.getD_eq_getD_getElem?,Array.getElem?_eq_none (by simp; omega)] at ht
     simp at ht
 intro j i
 unfold Region.before
 rw[← Array.foldl_toList]
 exact key ops.toList [] #[] rfl rfl (by simp) j i
theorem jd {ρ ρ':Operand→Option DV}:∀ {l:List Operand},(∀ a∈l,ρ a=ρ' a)→evs ρ l=evs ρ' l
 | [],_=>rfl
 | a::l,h=>by
  unfold evs
  rw[h a (by simp),jd fun b hb=>h b (by simp[hb])]
theorem oU {ρ ρ':Operand→Option DV}:∀ {l:List (Nat×Operand)},(∀ a∈l.map (·.2),ρ a=ρ' a)→gH ρ l=gH ρ' l
 | [],_=>rfl
 | (i,a)::l,h=>by
  unfold gH
  rw[h a (by simp),oU fun b hb=>h b (by simp at hb ⊢; exact .inr hb)]
theorem o6 {ρ ρ':Operand→Option DV} {a:Option Operand} {d m:Nat} (h:∀ b∈a.toArray,ρ b=ρ' b):eN ρ a d m=eN ρ' a d m:=by
 cases a with
 | none=>rfl
 | some b=>simp only[eN,intOf,h b (by simp)]
theorem tH {ρ ρ':Operand→Option DV} {o:Oper} {S:ak} {ay:Nat} (h:∀ a∈o.op.operands,ρ a=ρ' a):ah P ty aD call yf ρ o S ay=ah P ty aD call yf ρ' o S ay:=by
 obtain⟨dst,op,type,pos,after,guard⟩:=o
 cases op<;>simp only[Op.operands,Call.operands] at h<;>try rfl
 case move a=>simp only[ah,h a (by simp)]
 case assign a=>simp only[ah,h a (by simp)]
 case pick a b c=>simp only[ah,h a (by simp),h b (by simp),h c (by simp)]
 case box t a=>simp only[ah,h a (by simp)]
 case build t ps =>
  have:=oU (ρ:=ρ) (ρ':=ρ') (l:=ps.toList) fun a ha=>h a (by simpa using ha)
  simp only[ah,this]
 case buildSlice t n ps =>
  have:=oU (ρ:=ρ) (ρ':=ρ') (l:=ps.toList) fun a ha=>h a (by simpa using ha)
  simp only[ah,this]
 case makeSlice t a b=>simp only[ah,intOf,h a (by simp),h b (by simp)]
 case load t a=>simp only[ah,h a (by simp)]
 case store t a v=>simp only[ah,h a (by simp),h v (by simp)]
 case nilCheck a=>simp only[ah,h a (by simp)]
 case binOp op t a b u=>simp only[ah,valOf,h a (by simp),h b (by simp)]
 case unOp op t a=>simp only[ah,valOf,h a (by simp)]
 case convert s d a=>simp only[ah,valOf,h a (by simp)]
 case makeFunc fn fs cs =>
  cases fn with
  | func f=>simp only[ah,jd (ρ:=ρ) (ρ':=ρ') (l:=fs.toList) fun a ha=>h a (by simp at ha ⊢; exact .inl ha),jd (ρ:=ρ) (ρ':=ρ') (l:=cs.toList) fun a ha=>h a (by simp at ha ⊢; exact .inr ha)]
  | _=>rfl
 case makeMap t r=>cases r<;>rfl
 case slice t a lo hi mx =>
  have h1:ρ a=ρ' a:=h a (by simp)
  have h2:=fun d m=>o6 (ρ:=ρ) (ρ':=ρ') (a:=lo) (d:=d) (m:=m) fun b hb=>h b (by simp at hb ⊢; simp[hb])
  have h3:=fun d m=>o6 (ρ:=ρ) (ρ':=ρ') (a:=hi) (d:=d) (m:=m) fun b hb=>h b (by simp at hb ⊢; simp[hb])
  have h4:=fun d m=>o6 (ρ:=ρ) (ρ':=ρ') (a:=mx) (d:=d) (m:=m) fun b hb=>h b (by simp at hb ⊢; simp[hb])
  simp only[ah,h1,h2,h3,h4]
 case fieldAddr t a f=>simp only[ah,h a (by simp)]
 case field t a f=>simp only[ah,h a (by simp)]
 case indexAddr t a i=>simp only[ah,intOf,h a (by simp),h i (by simp)]
 case index t a i=>simp only[ah,intOf,h a (by simp),h i (by simp)]
 case lookup t a i ok=>simp only[ah,valOf,h a (by simp),h i (by simp)]
 case mapUpdate t m k v=>simp only[ah,valOf,h m (by simp),h k (by simp),h v (by simp)]
 case extract a i=>simp only[ah,h a (by simp)]
 case call c =>
  obtain⟨callee,args,ats⟩:=c
  cases callee with
  | builtin b =>
   simp only[Array.empty_append] at h
   have h1:∀ a∈args.toList,ρ a=ρ' a:=fun a ha=>h a (by simpa using ha)
   have h2:=jd h1
   simp only[ah]
   generalize args.toList=l at h1 h2
   generalize ats.toList=m
   cases b<;>try rfl
   ·match l,m with
    | [a,c],[t,u]=>simp only[h1 a (by simp),h1 c (by simp)]
    | [],_=>rfl
    | [_],_=>rfl
    | _::_::_::_,_=>rfl
    | [_,_],[]=>rfl
    | [_,_],[_]=>rfl
    | [_,_],_::_::_::_=>rfl
   ·match l,m with
    | [a],[t]=>simp only[h1 a (by simp)]
    | [],_=>rfl
    | _::_::_,_=>rfl
    | [_],[]=>rfl
    | [_],_::_::_=>rfl
   ·simp only[h2]
   ·simp only[h2]
  | value f =>
   have h1:ρ f=ρ' f:=h f (by simp)
   have h2:=jd (ρ:=ρ) (ρ':=ρ') (l:=args.toList) fun a ha=>h a (by simp at ha ⊢; exact .inr ha)
   simp only[ah,h1,h2]
  | invoke r m=>rfl
end Go.Di
end
