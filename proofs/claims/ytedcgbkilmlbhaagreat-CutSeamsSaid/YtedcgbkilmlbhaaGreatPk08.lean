import Derived.Test.YtedcgbkilmlbhaaGreatPk07
section
namespace Go.Tv
open Go Go.Di Go.Proofs
variable {P:Program} {ty:ir} {tt:TypeId→Option TT} {T:gP} {ι ι' w:mm} {S S':ax} {te mW:List TV} {env:List DV} {tS jR:List TB} {aM:bV} {call:bP} {yf:fI} {o:Oper} {aH nT:Nat} {B:List Nat} {r:TR} {ops:Array Oper} {L:Nat} {fn:FuncId} {iJ:Bool} {fs:List dD}
theorem Ui {md:Nat} (h:md≤2):md=0∨md=1∨md=2:=by omega
theorem Tl {α β:Type} {x:Option α} {f:α→β} {q:β×Prop} (h:x.map (fun a=>(f a,True))=some q):q.2:=by
 simp only[ai] at h
 obtain⟨_,_,rfl⟩:=h
 trivial
theorem Ik {q:TV×Prop} (hc:yw o=false) (h:bX P ty tt te tS o=some q):q.2:=by
 unfold yw at hc
 unfold bX at h
 cases ho:o.op
 all_goals simp only[ho] at hc h
 all_goals try (cases hc; done)
 all_goals repeat' (split at h)
 all_goals first
  | (cases h; done)
  | (cases h; trivial)
  | exact Tl h
  | (simp only[ai] at h; obtain⟨_,_,rfl⟩:=h; trivial)
theorem Tf {q:TR} (hc:yw o=false) (h:stepT P ty tt te tS o nT=some q):q.c:=by
 have hp:∀ {q:TR},((bX P ty tt te tS o).map fun r=>(⟨r.1,te,tS,vz te o,r.2⟩:TR))=some q→q.c:=by
  intro q h
  simp only[ai] at h
  obtain⟨a,h1,rfl⟩:=h
  exact Ik hc h1
 unfold stepT at h
 split at h
 ·split at h
  ·cases h; trivial
  ·cases h
 ·split at h
  ·split at h
   ·cases h; trivial
   ·cases h
  ·cases h
 ·split at h
  ·split at h
   ·split at h
    ·simp only[ai] at h
     obtain⟨_,_,rfl⟩:=h
     trivial
    ·cases h
   ·cases h
  ·cases h
 ·rename_i ho
  simp only[yw,ho] at hc
  cases hc
 ·exact hp h
def Nb (o:Oper):Prop:=(∃ op t x y u,o.op = .binOp op t x y u)∨∃ op t x,o.op = .unOp op t x
theorem xK {v:TV} (hb:Nb o) (h:bX P ty tt te tS o=some (v,True)):stepT P ty tt te tS o nT=some ⟨v,te,tS,[],True⟩:=by
 rcases hb with ⟨op,t,x,y,u,ho⟩ | ⟨op,t,x,ho⟩<;>simp only[stepT,ho,h,Option.map_some,vz]
theorem OZ {v:TV} {c:Prop} (h:BN te o=some (v,c)):Nb o:=by
 unfold BN at h
 split at h
 ·rename_i ho; exact .inl ⟨_,_,_,_,_,ho⟩
 ·rename_i ho; exact .inl ⟨_,_,_,_,_,ho⟩
 ·rename_i ho; exact .inl ⟨_,_,_,_,_,ho⟩
 ·rename_i ho; exact .inr ⟨_,_,_,ho⟩
 ·cases h
theorem Xn {b:Bool} (h:Qe P te o=some b):Nb o:=by
 unfold Qe at h
 split at h
 ·rename_i ho; exact .inl ⟨_,_,_,_,_,ho⟩
 ·rename_i ho; exact .inl ⟨_,_,_,_,_,ho⟩
 ·cases h
theorem abD (hb:Nb o):nU o=false:=by
 rcases hb with ⟨op,t,x,y,u,ho⟩ | ⟨op,t,x,ho⟩<;>simp only[nU,ho]
theorem T9 {g:FuncId} {targs:List TV} (h:QM tt te o=some (g,targs)):∃ f args argTypes fs cs xs,o.op = .call { callee := .value f,args,argTypes }∧iK te f=some (.fn g fs cs)∧oH te args.toList=some xs∧(fs++xs++cs).all gQ=true∧bT (jq tt fs argTypes) (fs++xs++cs)=targs:=by
 unfold QM at h
 split at h
 ·rename_i f args argTypes ho
  split at h
  ·rename_i g' fs cs xs h1 h2
   split at h
   ·rename_i h3
    cases h
    exact⟨f,args,argTypes,fs,cs,xs,ho,h1,h2,h3,rfl⟩
   ·cases h
  ·cases h
 ·cases h
theorem Om {g:FuncId} {kp:Nat} {targs ts:List TV} (h:J2 tt te tS o=some (g,kp,targs,ts)):∃ f args argTypes fs cs xs,o.op = .call { callee := .value f,args,argTypes }∧iK te f=some (.fn g fs cs)∧oH te args.toList=some xs∧wS kp (jq tt fs argTypes) (fs++xs++cs)=some targs∧(fs++xs++cs).any isRef=true∧tS[kp]? = some (.cells ts)∧ji ts=[]:=by
 unfold J2 at h
 split at h
 ·rename_i f args argTypes ho
  split at h
  ·rename_i g' fs cs xs h1 h2
   split at h
   ·split at h
    ·rename_i h4 h5
     split at h
     ·rename_i h6
      simp only[aI,List.isEmpty_iff] at h6
      cases h
      exact⟨f,args,argTypes,fs,cs,xs,ho,h1,h2,h4,h6.1,h5,h6.2⟩
     ·cases h
    ·cases h
   ·cases h
  ·cases h
 ·cases h
theorem On {g:FuncId} {kp:Nat} {targs ts:List TV} (h:J3 tt te tS o=some (g,kp,targs,ts)):∃ f args argTypes fs cs xs off rest,o.op = .call { callee := .value f,args,argTypes }∧iK te f=some (.fn g fs cs)∧oH te args.toList=some xs∧fs++xs++cs = .ptr kp off::rest∧rest.all gQ=true∧tS[kp]? = some (.cells ts)∧ts.all wP=true∧targs = .ptr 0 off::bT (jq tt fs argTypes).tail rest:=by
 unfold J3 at h
 split at h
 ·rename_i f args argTypes ho
  split at h
  ·rename_i g' fs cs xs h1 h2
   split at h
   ·rename_i kp' off rest hl
    split at h
    ·rename_i uq h5
     split at h
     ·rename_i h6
      simp only[aI] at h6
      cases h
      exact⟨f,args,argTypes,fs,cs,xs,off,rest,ho,h1,h2,hl,h6.1,h5,h6.2,rfl⟩
     ·cases h
    ·cases h
   ·cases h
  ·cases h
 ·cases h
theorem Iv {md:Nat} {v:TV} {cs:List TV} {K:Prop} (h:Hv md v cs K):(md=2→LN v=true∧cs.all wP=true)∧K:=by
 unfold Hv at h
 split at h
 ·split at h
  ·rename_i h1
   simp only[aI] at h1
   exact⟨fun _=>h1,h⟩
  ·exact h.elim
 ·rename_i hn
  exact⟨fun e=>(hn e).elim,h⟩
theorem s9 {k:Nat}:∀ {tS:List TB} {i:Nat},k∈gv i tS↔i≤k∧∃ c,tS[k-i]? = some (.cells c)
 | [],i=>by simp[gv]
 | b::l,i=>by
  have ih:=s9 (k:=k) (tS:=l) (i:=i+1)
  have hs:∀ (c:List TV),i+1≤k→((b::l)[k-i]? = some (.cells c)↔l[k-(i+1)]? = some (.cells c)):=fun c h=>by
   rw[show k-i=(k-(i+1))+1 by omega,List.getElem?_cons_succ]
  cases b with
  | cells c0 =>
   simp only[gv,bI,ih]
   constructor
   ·rintro(rfl | ⟨h1,c,h2⟩)
    ·exact⟨ak _,c0,by simp⟩
    ·exact⟨by omega,c,(hs c h1).2 h2⟩
   ·rintro⟨h1,c,h2⟩
    by_cases e:k=i
    ·exact .inl e
    ·exact .inr ⟨by omega,c,(hs c (by omega)).1 h2⟩
  | none =>
   simp only[gv,ih]
   constructor
   ·rintro⟨h1,c,h2⟩; exact⟨by omega,c,(hs c h1).2 h2⟩
   ·rintro⟨h1,c,h2⟩
    by_cases e:k=i
    ·subst e; simp at h2
    ·exact⟨by omega,c,(hs c (by omega)).1 h2⟩
  | map kt0 c0 =>
   simp only[gv,ih]
   constructor
   ·rintro⟨h1,c,h2⟩; exact⟨by omega,c,(hs c h1).2 h2⟩
   ·rintro⟨h1,c,h2⟩
    by_cases e:k=i
    ·subst e; simp at h2
    ·exact⟨by omega,c,(hs c (by omega)).1 h2⟩
  | rows t0 e0 c0 z0 =>
   simp only[gv,ih]
   constructor
   ·rintro⟨h1,c,h2⟩; exact⟨by omega,c,(hs c h1).2 h2⟩
   ·rintro⟨h1,c,h2⟩
    by_cases e:k=i
    ·subst e; simp at h2
    ·exact⟨by omega,c,(hs c (by omega)).1 h2⟩
  | own e0 s0 =>
   simp only[gv,ih]
   constructor
   ·rintro⟨h1,c,h2⟩; exact⟨by omega,c,(hs c h1).2 h2⟩
   ·rintro⟨h1,c,h2⟩
    by_cases e:k=i
    ·subst e; simp at h2
    ·exact⟨by omega,c,(hs c (by omega)).1 h2⟩
theorem Is {k:Nat} {c:List TV} (h:tS[k]? = some (.cells c)):k∈gv 0 tS:=s9.2 ⟨gh _,c,h⟩
theorem abi:pg (gv 0 tS) tS:=fun _ hk=>(s9.1 hk).2
mutual
theorem Wo (hi:∀ k,AR tS k=true→ι' k=ι k):∀ (v:TV) (d:DV),RT ι S v d→RT ι' S' (nk tS v) d
 | .unk,_,_=>by simp only[nk,RT]
 | .val _,d,k=>by cases d<;>simp only[RT,nk] at k ⊢; exact k
 | .gq,d,k=>by cases d<;>simp only[RT,nk] at k ⊢; exact k
 | .agg l,d,k=>by cases d<;>simp only[RT,nk] at k ⊢; exact nP hi l _ k
 | .gd l,d,k=>by cases d<;>simp only[RT,nk] at k ⊢; exact nP hi l _ k
 | .sl t l .no,d,k=>by cases d<;>simp only[RT,nk] at k ⊢; exact k
 | .sl t l .full,d,k=>by cases d<;>simp only[RT,nk] at k ⊢; exact k
 | .sl t l (.oE g),d,k=>by cases d<;>simp only[RT,nk] at k ⊢; exact⟨k.1,trivial⟩
 | .ptr id off,d,k=>by
  cases d<;>simp only[RT] at k
  simp only[nk]
  split
  ·rename_i hc
   simp only[RT]
   exact⟨(hi _ hc).trans k.1,k.2⟩
  ·simp only[RT]
 | .eL t l i off,d,k=>by cases d<;>simp only[RT,nk] at k ⊢; exact k
 | .mp id,d,_=>by simp only[RT,nk]
 | .so g t,d,_=>by simp only[RT,nk]
 | .sp g t i off,d,_=>by simp only[RT,nk]
 | .fn f a b,d,k=>by cases d<;>simp only[RT,nk] at k ⊢; exact⟨k.1,nP hi a _ k.2.1,nP hi b _ k.2.2⟩
theorem nP (hi:∀ k,AR tS k=true→ι' k=ι k):∀ (l:List TV) (m:List DV),dw ι S l m→dw ι' S' (pX tS l) m
 | [],m,k=>by rw[aU k]; simp only[pX]; exact cF
 | a::l,m,k=>by
  obtain⟨d,m',rfl,h1,h2⟩:=aj k
  simp only[pX]
  exact aP (Wo hi a d h1) (nP hi l m' h2)
end
def M6 (call:bP) (g:FuncId) (A:List TV) (tS:List TB) (K:TV→List TB→Prop):Prop :=
 ∀ ι cZ S,cK ι A tS cZ S→∃ d S' ι' v cU,call g cZ S=some (d,S')∧cK ι' [v] cU [d] S'∧pg (gv 0 tS) cU∧Fr (gv 0 tS) ι S ι' S'∧Nn S.length S S'∧K v cU
theorem TQ {f:Operand} {args:Array Operand} {argTypes:Array TypeId} {g:FuncId} {fs cs xs:List TV} {K:TV→List TB→Prop} (hop:o.op = .call { callee := .value f,args,argTypes }) (hf:iK te f=some (.fn g fs cs)) (ha:oH te args.toList=some xs) (hr:(fs++xs++cs).any isRef=true∨ty.h o=1)
  (hc:M6 call g (fs++xs++cs) tS K):Does P ty aM call yf B o nT te tS false fun v cT cU _=>cT=pX tS te∧K v cU:=by
 intro ι w env S aH hR hB hw hT Ur hS
 obtain⟨A6,jH,M7,k1,k2,k3⟩:=mh hR.env hf ha
 obtain⟨d,S',ι',v,cU,m1,m2,m3,m4,m5,m6⟩:=hc ι _ S ⟨k3,hR.cells,hR.own,hR.xY,hR.inj,hR.mp⟩
 obtain⟨w',hw'⟩:=JP m2
 obtain⟨_,_,e,m7,-⟩:=aj m2.env
 cases e
 have ab4:∀ k,k∈B→k∈gv 0 tS:=fun k hk=>by obtain⟨l,h1⟩:=hB k hk; exact Is h1
 refine⟨d,S',ι',w',v,pX tS te,cU,⟨none,true⟩,⟨none,true⟩,fun _ => ?_,fun e=>(by cases e),⟨fun e=>e,fun l hl=>(by cases hl)⟩,fun l m hl=>(by cases hl),⟨nP (fun k hk => ?_) _ _ hR.env,m2.cells,m2.own,m2.xY,m2.inj,m2.mp⟩,m7,hw',fun e=>(by cases e),⟨m4.rest,m4.ours,fun k hk=>m4.base k (ab4 k hk)⟩,fun k hk=>m3 k (ab4 k hk),⟨m5.1,fun j hj fV=>m5.2 j (by have:=(aJ.1 fV).1; omega) fV⟩,rfl,m6⟩
 ·rcases hr with hr | hr
  ·have:=vL hr k3
   simp only[ah,hop,k1,k2,wR,this,aF,if_false,m1]
   split<;>rfl
  ·simp only[ah,hop,k1,k2,hr,m1]
 ·unfold AR at hk
  split at hk
  ·rename_i c hc; exact m4.base k (Is hc)
  ·cases hk
theorem W5 {md:Nat} {A:List TV} {fn:Func} {j:List (Nat×LA)} (h:ZC ty T md te o=some (A,fn,j)):md=0∧∃ f args argTypes g fs cs xs,o.op = .call { callee := .value f,args,argTypes }∧iK te f=some (.fn g fs cs)∧oH te args.toList=some xs∧((fs++xs++cs).any isRef=true∨ty.h o=1)∧A=fs++xs++cs∧T.X g=some (fn,j):=by
 unfold ZC at h
 split at h
 ·split at h
  ·rename_i g A' h1
   split at h
   ·rename_i wm j' h2
    cases h
    unfold abY at h1
    split at h1
    ·rename_i f args argTypes ho
     split at h1
     ·rename_i g' fs cs xs e1 e2
      split at h1
      ·rename_i hr
       cases h1
       exact⟨rfl,f,args,argTypes,g,fs,cs,xs,ho,e1,e2,by simpa using hr,rfl,h2⟩
      ·cases h1
     ·cases h1
    ·cases h1
   ·cases h
  ·cases h
 ·cases h
theorem qh {b:Bool} {c:Prop} (h:Zx ty te o=some (b,c)) (hc:c):(∃ op t x y u,o.op = .binOp op t x y u)∧∀ {env:List DV},dw ι S te env→∀ aH,ah P ty aM call yf (jb env) o S aH=some (.val (.bool b),S):=by
 unfold Zx at h
 split at h
 ·rename_i t x y _ ho
  refine⟨⟨_,_,_,_,_,ho⟩,fun {env} hE aH => ?_⟩
  split at h
  ·rename_i h1 h2 h3
   cases h
   obtain⟨d1,k1,k2⟩:=bC hE h2
   obtain⟨d2,k3,k4⟩:=bC hE h3
   cases d1<;>simp only[RT] at k2
   cases d2<;>simp only[RT] at k4
   obtain⟨rfl,rfl,rfl⟩:=k4
   rename_i rows tok f
   have hr:rows.isEmpty=false:=by
    have:=lz k2.1
    cases rows with
    | nil=>exact absurd (eF (by simpa using this.symm)) hc
    | cons=>rfl
   simp only[ah,ho,valOf,k1,k3,Option.bind_some,y9,BF,h1,JG,hr,aF,if_false,Option.map_some]
  ·rename_i h1 h2 h3
   cases h
   obtain⟨d1,k1,k2⟩:=bC hE h2
   obtain⟨d2,k3,k4⟩:=bC hE h3
   cases d1<;>simp only[RT] at k2
   cases d2<;>simp only[RT] at k4
   obtain⟨rfl,rfl,rfl⟩:=k4
   obtain⟨rfl,rfl,rfl⟩:=k2
   simp only[ah,ho,valOf,k1,k3,Option.bind_some,y9,BF,h1,JG,List.isEmpty_nil,if_true,Option.map_some]
  ·cases h
 ·cases h
theorem Ix {b:Value} (hb:∃ op t x y u,o.op = .binOp op t x y u) (h:∀ {ι:mm} {S:ax} {env:List DV},dw ι S te env→∀ aH,ah P ty aM call yf (jb env) o S aH=some (.val b,S)) (dr:Bool):Does P ty aM call yf B o nT te tS dr fun v cT cU ft=>v = .val b∧cT=te∧cU=tS∧ft=⟨some [],false⟩:=by
 intro ι w env S aH hR hB hw hT hn hS
 obtain⟨op,t,x,y,u,ho⟩:=hb
 refine⟨.val b,S,ι,w,.val b,te,tS,⟨some [],false⟩,⟨some [],false⟩,fun _=>h hR.env aH,fun _ => ?_,⟨id,fun l hl=>⟨[],rfl,fun j hj=>(by cases hj)⟩⟩,fun l m _ hm j hj=>(by cases hm; cases hj),hR,by simp only[RT],hw,fun _ _ _=>rfl,Fr.refl _ _ _,hB,gu _ _,rfl,rfl,rfl,rfl⟩
 have:=h hR.env aH
 simp only[aL,ho]
 rw[this]; rfl
theorem aaw {k:Nat} {b:Value} {Q:List TV→Prop} (ho:ops[k]? = some o) (hw:eS ops te o=some true) (hb:∃ op t x y u,o.op = .binOp op t x y u) (h:∀ {ι:mm} {S:ax} {env:List DV},dw ι S te env→∀ aH,ah P ty aM call yf (jb env) o S aH=some (.val b,S)) (hq:WQ P ty aM call yf ops tS (k+1) (mZ te o.dst (.val b)) Q):WQ P ty aM call yf ops tS k te Q:=by
 intro ι env S hR
 obtain⟨aD,cT,n1,n2,n3⟩:=hq ι (gV env o.dst (.val b)) S (nB hR (by simp only[RT]) _)
 refine⟨aD,cT,?_,n2,n3⟩
 rw[nF ho]
 have hs:=h hR.env S.length
 obtain⟨op,t,x,y,u,hop⟩:=hb
 have hq:dc P ty aM call yf (jb env) o S=some (.val b):=by
  simp only[dc,hop]
  rw[hs]; rfl
 simp only[pn,iF hR.env hw,if_true,hq,n1]
def E2 (P:Program) (ty:ir) (aM:bV) (call:bP) (yf:fI) (B:List Nat) (ops:Array Oper) (Q:List TV→List TB→Prop) (md:Nat) (rM:List TB) (k:Nat) (te:List TV) (tS:List TB) (fs:List dD):Prop :=
 match md with
 | 0=>WL P ty aM call yf B ops k te tS Q
 | 1=>tS=rM→WQ P ty aM call yf ops rM k te fun te=>Q te rM
 | _=>WD P ty aM call yf B ops k te tS fs Q
theorem FP {Q:List TV→List TB→Prop} {md k:Nat} {rM:List TB} (uN:md≤2) (ho:ops[k]? = some o) (hw:eS ops te o=some false) {K:KO} (hK:∀ te tS fs,K te tS fs→E2 P ty aM call yf B ops Q md rM (k+1) te tS fs) (h:LB o te tS fs K):E2 P ty aM call yf B ops Q md rM k te tS fs:=by
 have h1:=hK _ _ _ (jJ (K:=fun te=>K te tS (fs++[gZ])) h)
 rcases Ui uN with rfl | rfl | rfl
 ·exact VT ho hw h1
 ·exact fun e=>VS ho hw (h1 e)
 ·exact VZ ho hw h1
variable {inl:Inl}
def zB (call:bP) (T:gP) (inl:Inl):Prop:=∀ g fn j A tS (K:TV→List TB→Prop),T.X g=some (fn,j)→inl fn j A tS K→M6 call g A tS K
def VH (ty:ir) (md:Nat) (o:Oper) (C9:List TV) (GH:List TB) (te:List TV) (tS:List TB):Prop :=
 match md with
 | 0=>JD ty C9 GH o=some (te,tS)
 | _=>C9=te∧GH=tS
theorem Xr (hT:sA T aM call) (hI:zB call T inl) {Q:List TV→List TB→Prop} {md n0 k:Nat} {rM GH:List TB} {C9:List TV} (uN:md≤2) (ho:ops[k]? = some o) (hw:eS ops C9 o=some true) (rV:VH ty md o C9 GH te tS) {K:KO} (hK:∀ te tS fs,K te tS fs→E2 P ty aM call yf B ops Q md rM (k+1) te tS fs)
  (hn:Fa tS (Nv md n0 k tS)=true) (h:QN ty tt T inl md o te tS fs K):E2 P ty aM call yf B ops Q md rM k C9 GH fs:=by
 unfold QN at h
 split at h
 ·rename_i A fn j hx
  obtain⟨rfl,f,args,argTypes,g,fs1,cs1,xs,c1,c2,c3,c4,rfl,c5⟩:=W5 hx
  refine om ho hw rV (TQ c1 c2 c3 c4 (hI g fn j _ tS _ c5 h)) ?_
  rintro v cT cU ft ⟨rfl,hv⟩
  exact hK _ _ _ (jJ (K:=fun te=>K te cU fs) (dg (pX tS te) (K:=fun te=>kA te o.dst v fun te=>K te cU fs) (iR v (K:=fun v=>eD (pX tS te) fun te=>kA te o.dst v fun te=>K te cU fs) hv)))
 split at h
 ·exact h.elim
 rename_i hh
 replace hh:ty.h o≠1:=by simpa using hh
 split at h
 ·rename_i g targs hc
  obtain⟨f,args,argTypes,fs1,cs1,xs,c1,c2,c3,c4,c5⟩:=T9 hc
  split at h
  ·rename_i p s hm hs
   have hm:md=0:=by simpa using hm
   subst hm
   obtain⟨hp,h⟩:=kJ h
   refine om ho hw rV (K6 c1 hh c2 c3 c4 c5 (hT.N _ _ _ _ hs hp)) ?_
   rintro v cT cU ft ⟨ts,hq,rfl,rfl,rfl⟩
   have e:sg tS tS.length (.cells ts)=tS++[.cells ts]:=by unfold sg; rw[if_neg (Nat.lt_irrefl _)]
   rw[e]
   exact hK _ _ _ (jJ (K:=fun te=>K te (tS++[.cells ts]) fs) (La (R:=fun cs=>kA cT o.dst (.ptr tS.length 0) fun te=>K te (tS++[.cells cs]) fs) h hq))
  ·split at h
   ·rename_i p s hs
    obtain⟨hp,h⟩:=kJ h
    have hsp:=hT.I _ _ _ _ hs hp
    have fin:∀ v,s.vB v→E2 P ty aM call yf B ops Q md rM (k+1) (mZ te o.dst v) tS (fs++[gZ]):=fun v hv =>
     hK _ _ _ (jJ (K:=fun te=>K te tS (fs++[gZ])) (iR v (K:=fun v=>kA te o.dst v fun te=>K te tS (fs++[gZ])) (K9 (R:=fun v=>jm v fun v=>kA te o.dst v fun te=>K te tS (fs++[gZ])) h hv)))
    rcases Ui uN with rfl | rfl | rfl
    ·skip
     refine om ho hw rV (CQ c1 hh c2 c3 c4 c5 hsp false) ?_
     rintro v cT cU ft ⟨hv,rfl,rfl,-⟩
     exact fin v hv
    ·obtain⟨rfl,rfl⟩:=rV
     exact fun e=>R6 ho hw c1 hh c2 c3 c4 c5 hsp fun v hv=>fin v hv e
    ·skip
     obtain⟨rfl,rfl⟩:=rV
     refine Bj ho hw hn (CQ c1 hh c2 c3 c4 c5 hsp true) ?_
     rintro v cT cU ft ⟨hv,rfl,rfl,rfl⟩
     exact fin v hv
   ·exact h.elim
 ·split at h
  ·rename_i g kp targs ts hc
   split at h
   ·rename_i p s hs
    obtain⟨hp,h⟩:=kJ h
    have hsp:=hT.C _ _ _ _ _ hs hp
    have all:∀ v cs,s.holds v cs→Hv md v cs (jm v fun v=>kA te o.dst v fun te=>eD cs fun cs=>ei (tS.set kp (.cells cs)) fun tS=>K te tS (fs++[Bv md kp])):=fun v cs hv =>
     O1 (R:=fun v cs=>Hv md v cs (jm v fun v=>kA te o.dst v fun te=>eD cs fun cs=>ei (tS.set kp (.cells cs)) fun tS=>K te tS (fs++[Bv md kp]))) h hv
    have fin:∀ v cs,s.holds v cs→E2 P ty aM call yf B ops Q md rM (k+1) (mZ te o.dst v) (tS.set kp (.cells cs)) (fs++[Bv md kp]):=fun v cs hv=>by
     have h1:=jJ (iR v (K:=fun v=>kA te o.dst v fun te=>eD cs fun cs=>ei (tS.set kp (.cells cs)) fun tS=>K te tS (fs++[Bv md kp])) (Iv (all v cs hv)).2)
     exact hK _ _ _ (eu _ (K:=fun tS=>K _ tS (fs++[Bv md kp])) (dg cs (K:=fun cs=>ei (tS.set kp (.cells cs)) fun tS=>K _ tS (fs++[Bv md kp])) h1))
    rcases Ui uN with rfl | rfl | rfl
    ·obtain⟨f,args,argTypes,fs1,cs1,xs,c1,c2,c3,c4,c5,c6,c7⟩:=Om (tt:=tt) hc
     refine om ho hw rV (K4 c1 hh c2 c3 c4 c5 c6 c7 hsp) ?_
     rintro v cT cU ft ⟨uq,hv,rfl,rfl,-⟩
     exact fin v uq hv
    ·cases hc
    ·obtain⟨f,args,argTypes,fs1,cs1,xs,off,rest,c1,c2,c3,c4,c5,c6,c7,rfl⟩:=On (tt:=tt) hc
     obtain⟨rfl,rfl⟩:=rV
     refine Bj ho hw hn (Jc (tt:=tt) c1 hh c2 c3 c4 c5 c6 c7 hsp fun v cs hv=>(Iv (all v cs hv)).1 rfl) ?_
     rintro v cT cU ft ⟨uq,hv,rfl,rfl,rfl⟩
     exact fin v uq hv
   ·exact h.elim
  ·exact h.elim
theorem Ia {Q:List TV→List TB→Prop} {md n0 k:Nat} {rM GH:List TB} {C9:List TV} (uN:md≤2) (ho:ops[k]? = some o) (hw:eS ops C9 o=some true) (rV:VH ty md o C9 GH te tS) {K:KO} (hK:∀ te tS fs,K te tS fs→E2 P ty aM call yf B ops Q md rM (k+1) te tS fs)
  (hn:Fa tS (Nv md n0 k tS)=true) {v:TV} (hb:Nb o) (hp:bX P ty tt te tS o=some (v,True)) (h:kA te o.dst v fun te=>K te tS (fs++[gZ])):E2 P ty aM call yf B ops Q md rM k C9 GH fs:=by
 have h1:=hK _ _ _ (jJ (K:=fun te=>K te tS (fs++[gZ])) h)
 rcases Ui uN with rfl | rfl | rfl
 ·skip
  refine om ho hw rV (uh (xK hb hp) trivial false) ?_
  rintro v' cT cU ft ⟨rfl,rfl,rfl,-⟩
  exact h1
 ·obtain⟨rfl,rfl⟩:=rV
  exact fun e=>LZ ho hw (e▸hp) trivial (h1 e)
 ·skip
  obtain⟨rfl,rfl⟩:=rV
  refine Bj ho hw hn (uh (xK hb hp) trivial true) ?_
  rintro v' cT cU ft ⟨rfl,rfl,rfl,rfl⟩
  rw[abD hb]
  exact h1
theorem Rp (hT:sA T aM call) (hI:zB call T inl) {Q:List TV→List TB→Prop} {md n0 k:Nat} {rM GH:List TB} {C9:List TV} (uN:md≤2) (ho:ops[k]? = some o) (hw:eS ops C9 o=some true) (rV:VH ty md o C9 GH te tS) {K:KO} (hK:∀ te tS fs,K te tS fs→E2 P ty aM call yf B ops Q md rM (k+1) te tS fs)
  (h:Vj P ty tt T inl md n0 k o te tS fs K):E2 P ty aM call yf B ops Q md rM k C9 GH fs:=by
 unfold Vj at h
 split at h
 ·exact h.elim
 ·rename_i hn
  split at h
  ·exact Xr hT hI uN ho hw rV hK hn h
  ·split at h
   ·rename_i v cT cU f c hm
    obtain⟨hc,h⟩:=h
    have h1:=jJ (dg cT (K:=fun te=>kA te o.dst v fun te=>ei cU fun tS=>K te tS (fs++[f])) (iR v (K:=fun v=>eD cT fun te=>kA te o.dst v fun te=>ei cU fun tS=>K te tS (fs++[f])) h))
    have h1:=hK _ _ _ (eu cU (K:=fun tS=>K _ tS (fs++[f])) h1)
    unfold Ym at hm
    split at hm
    ·rename_i v2 g c2 hr
     cases hm
     rcases Ui uN with rfl | rfl | rfl
     ·refine om ho hw rV (CP hr hc false) ?_
      rintro v' te2 UI ft ⟨rfl,rfl,rfl,rfl⟩
      exact h1
     ·obtain⟨rfl,rfl⟩:=rV
      exact fun e=>R5 ho hw (e▸hr) hc (h1 e)
     ·obtain⟨rfl,rfl⟩:=rV
      refine Bj ho hw hn (CP hr hc true) ?_
      rintro v' te2 UI ft ⟨rfl,rfl,rfl,rfl⟩
      exact h1
    ·split at hm
     ·cases hm
     rename_i h91
     split at hm
     ·rename_i g UI hs
      cases hm
      rcases Ui uN with rfl | rfl | rfl
      ·refine om ho hw rV (CO hs false) ?_
       rintro v' te2 UI ft ⟨rfl,rfl,rfl,rfl⟩
       exact h1
      ·exact absurd rfl h91
      ·obtain⟨rfl,rfl⟩:=rV
       refine Bj ho hw hn (CO hs true) ?_
       rintro v' te2 UI ft ⟨rfl,rfl,rfl,rfl⟩
       exact h1
     ·split at hm
      ·rename_i h90
       subst h90
       simp only[ai,ay] at hm
       obtain⟨⟨v2,te2,UI,c2⟩,hs,rfl,rfl,rfl,rfl,rfl⟩:=hm
       refine om ho hw rV (K5 hs hc) ?_
       rintro v' te3 tS3 ft ⟨rfl,rfl,rfl⟩
       exact h1
      ·cases hm
   split at h
   ·rename_i v cU c hm
    have h0:md=0:=by
     unfold mapM at hm
     split at hm
     ·rfl
     ·cases hm
    subst h0
    refine om ho hw rV (TP hm h.1) ?_
    rintro v' cT UI ft ⟨rfl,rfl,rfl⟩
    have h1:=jJ (iR v' (K:=fun v=>kA cT o.dst v fun te=>ei UI fun tS=>K te tS (fs++[⟨none,true⟩])) h.2)
    exact hK _ _ _ (eu UI (K:=fun tS=>K _ tS (fs++[⟨none,true⟩])) h1)
   split at h
   ·rename_i v c ha
    exact Ia uN ho hw rV hK hn (OZ ha) (K8 (tt:=tt) ha h.1) h.2
   ·split at h
    ·rename_i b _ hb
     exact Ia uN ho hw rV hK hn (Xn hb) (TX (tt:=tt) hb) h
    ·rename_i b c _ _ hb
     obtain⟨hc,h⟩:=h
     have h1:=hK _ _ _ (jJ (K:=fun te=>K te tS (fs++[gZ])) h)
     rcases Ui uN with rfl | rfl | rfl
     ·refine om ho hw rV (Ix (qh (P:=P) (aM:=aM) (call:=call) (yf:=yf) (ι:=dK) (S:=[]) hb hc).1 (fun hE aH=>(qh hb hc).2 hE aH) false) ?_
      rintro v' cT cU ft ⟨rfl,rfl,rfl,-⟩
      exact h1
     ·obtain⟨rfl,rfl⟩:=rV
      exact fun e=>aaw ho hw (qh (P:=P) (aM:=aM) (call:=call) (yf:=yf) (ι:=dK) (S:=[]) hb hc).1 (fun hE aH=>(qh hb hc).2 hE aH) (h1 e)
     ·obtain⟨rfl,rfl⟩:=rV
      refine Bj ho hw hn (Ix (qh (P:=P) (aM:=aM) (call:=call) (yf:=yf) (ι:=dK) (S:=[]) hb hc).1 (fun hE aH=>(qh hb hc).2 hE aH) true) ?_
      rintro v' cT cU ft ⟨rfl,rfl,rfl,rfl⟩
      exact h1
    ·have key:md≠1→∀ q:TR,stepT P ty tt te tS o (Nv md n0 k tS)=some q→q.c→K (mZ q.te o.dst q.v) q.tS (fs++[⟨some q.Fg,nU o⟩])→E2 P ty aM call yf B ops Q md rM k C9 GH fs:=by
      intro hm q hq hc hk
      have h1:=hK _ _ _ hk
      rcases Ui uN with rfl | rfl | rfl
      ·skip
       refine om ho hw rV (uh hq hc false) ?_
       rintro v' cT cU ft ⟨rfl,rfl,rfl,-⟩
       exact h1
      ·exact(hm rfl).elim
      ·skip
       obtain⟨rfl,rfl⟩:=rV
       refine Bj ho hw hn (uh hq hc true) ?_
       rintro v' cT cU ft ⟨rfl,rfl,rfl,rfl⟩
       exact h1
     split at h
     ·split at h
      ·rename_i q hq
       have fin:∀ {R:Prop},q.2→K (mZ te o.dst q.1) tS (fs++[gZ])→E2 P ty aM call yf B ops Q 1 rM k C9 GH fs:=fun {_} hc hk=>by
        obtain⟨h8,h9⟩:=rV
        subst h8 h9
        exact fun e=>LZ ho hw (e▸(show bX P ty tt C9 GH o=some (q.1,q.2) from hq)) hc (hK _ _ _ hk e)
       split at h
       ·exact fin (R:=True) h.1 (jJ (K:=fun te=>K te tS (fs++[gZ])) (iR q.1 (K:=fun v=>kA te o.dst v fun te=>K te tS (fs++[gZ])) h.2))
       ·rename_i od
        exact fin (R:=True) (Ik od hq) (jJ (K:=fun te=>K te tS (fs++[gZ])) (iR q.1 (K:=fun v=>kA te o.dst v fun te=>K te tS (fs++[gZ])) h))
      ·exact h.elim
     ·rename_i hm
      split at h
      ·rename_i q hq
       split at h
       ·refine key (fun e=>hm e) q hq h.1 ?_
        have h1:=dg q.te (iR q.v (K:=fun v=>eD q.te fun te=>kA te o.dst v fun te=>ei q.tS fun tS=>K te tS (fs++[⟨some q.Fg,nU o⟩])) h.2)
        exact eu q.tS (K:=fun tS=>K _ tS _) (jJ h1)
       ·rename_i od
        refine key (fun e=>hm e) q hq (Tf od hq) ?_
        have h1:=jJ (iR q.v (K:=fun v=>kA q.te o.dst v fun te=>ei q.tS fun tS=>K te tS (fs++[⟨some q.Fg,nU o⟩])) h)
        exact eu q.tS (K:=fun tS=>K _ tS _) h1
      ·exact h.elim
theorem HR {n:Int} {K:Nat→Prop}:∀ (c j:Nat),JS n K c j→∃ i:Nat,n=i∧K i
 | 0,_,h=>h.elim
 | c+1,j,h=>by
  obtain⟨h1,h2⟩:=tR h
  by_cases e:n=(j:Int)
  ·exact⟨j,e,h1 (gB e)⟩
  ·exact HR c (j+1) (h2 (gC e))
theorem abF {t c:Nat} {n:Int} (h:Z7 ty te o=some (t,n,c)):te[t]? = some (.val (.int .i64 n)):=by
 unfold Z7 at h
 split at h
 ·split at h
  ·rename_i h1 h2; cases h; exact h2
  ·cases h
 ·split at h
  ·rename_i h1 h2; cases h; exact h2
  ·cases h
 ·cases h
theorem Rn (hT:sA T aM call) (hI:zB call T inl) {Q:List TV→List TB→Prop} {md n0 k:Nat} {rM GH:List TB} {C9:List TV} (uN:md≤2) (ho:ops[k]? = some o) (hw:eS ops C9 o=some true) (rV:VH ty md o C9 GH te tS) {K:KO} (hK:∀ te tS fs,K te tS fs→E2 P ty aM call yf B ops Q md rM (k+1) te tS fs)
  (h:Nu P ty tt T inl md n0 k o te tS fs K):E2 P ty aM call yf B ops Q md rM k C9 GH fs:=by
 unfold Nu at h
 split at h
 ·rename_i t n c ha
  obtain⟨i,rfl,hi⟩:=HR _ _ h
  have:=oP te t _ hi
  rw[ou (abF ha)] at this
  exact Rp hT hI uN ho hw rV hK this
 ·exact Rp hT hI uN ho hw rV hK h
theorem Qs (hT:sA T aM call) (hI:zB call T inl) {Q:List TV→List TB→Prop} {md n0 k:Nat} {rM:List TB} (uN:md≤2) (ho:ops[k]? = some o) (hw:eS ops te o=some true) {K:KO} (hK:∀ te tS fs,K te tS fs→E2 P ty aM call yf B ops Q md rM (k+1) te tS fs)
  (h:opK P ty tt T inl md n0 k o te tS fs K):E2 P ty aM call yf B ops Q md rM k te tS fs:=by
 unfold opK at h
 split at h
 ·split at h
  ·rename_i mW jR hp
   exact Rn hT hI uN ho hw hp hK (eu jR (K:=fun tS=>Nu P ty tt T inl 0 n0 k o mW tS fs K) (dg mW (K:=fun te=>ei jR fun tS=>Nu P ty tt T inl 0 n0 k o te tS fs K) h))
  ·exact h.elim
 ·rename_i hno
  refine Rn hT hI uN ho hw ?_ hK h
  rcases Ui uN with rfl | rfl | rfl
  ·show JD ty te tS o=some (te,tS)
   unfold JD
   split
   ·rename_i h2; exact(hno rfl h2).elim
   ·rfl
  ·exact⟨rfl,rfl⟩
  ·exact⟨rfl,rfl⟩
theorem YE {b:Bool} (h:gdT ops te o = .no b):eS ops te o=some b:=by
 unfold gdT at h
 unfold eS
 split at h
 ·cases h; rename_i e; rw[e]
 ·rename_i e
  rw[e]
  dsimp only
  split at h
  ·rename_i e1
   rw[e1]
   dsimp only
   split at h
   ·cases h
   ·cases h
   ·cases h
    rename_i v hv e2
    rw[e2]
    split<;>simp_all
   ·cases h
  ·cases h; rename_i e1; rw[e1]
theorem abt {d:Tmp} {b want:Bool} (h:gdT ops te o = .ask d b want):te[d]? = some (.val (.bool b))∧eS ops te o=some (match want with | true=>b | false => !b):=by
 unfold gdT at h
 unfold eS
 split at h
 ·cases h
 ·rename_i e
  rw[e]
  dsimp only
  split at h
  ·rename_i e1
   rw[e1]
   dsimp only
   split at h
   ·cases h; rename_i e2; rw[e2]; cases want<;>exact⟨rfl,rfl⟩
   ·cases h
   ·cases h
   ·cases h
  ·cases h
theorem BB (hT:sA T aM call) (hI:zB call T inl) {Q:List TV→List TB→Prop} {md n0:Nat} {rM:List TB} (uN:md≤2) {K:KO} (hK:∀ te tS fs,K te tS fs→E2 P ty aM call yf B ops Q md rM ops.size te tS fs) :
  ∀ (r:List Oper) (k:Nat) (te:List TV) (tS:List TB) (fs:List dD),ops.toList.drop k=r→oK P ty tt T inl md n0 ops r k te tS fs K→E2 P ty aM call yf B ops Q md rM k te tS fs
 | [],k,te,tS,fs,hr,h=>by
  have hk:ops.size≤k:=by
   have:=List.drop_eq_nil_iff.1 hr
   simpa using this
  have h1:=hK te tS fs h
  rcases Ui uN with rfl | rfl | rfl
  ·intro ι env S hR hB; have:=h1 ι env S hR hB; rw[jN (by simp)] at this; rw[jN (by simpa using hk)]; exact this
  ·intro e ι env S hR; have:=h1 e ι env S hR; rw[jN (by simp)] at this; rw[jN (by simpa using hk)]; exact this
  ·skip
   intro ι w env S n0 hR hB hw hn
   have:=h1 ι w env S n0 hR hB hw (fun j hj wB=>by omega)
   rw[jN (by simp)] at this
   rw[jN (by simpa using hk)]
   obtain⟨aD,S',A6,ι',w',cT,cU,ft,e1,e2,e3,e4,e5,e6,e7,e8,e9⟩:=this
   exact⟨aD,S',A6,ι',w',cT,cU,ft,e1,e2,fun j _=>e3 j fun i hi C4=>by omega,e4,e5,e6,e7,⟨e8.1,fun j _ hn=>e8.2 j (fun i hi C4=>by omega) hn⟩,e9⟩
 | o::r,k,te,tS,fs,hr,h=>by
  obtain⟨ho,Av⟩:=I8 hr
  have ih:∀ te tS fs,oK P ty tt T inl md n0 ops r (k+1) te tS fs K→E2 P ty aM call yf B ops Q md rM (k+1) te tS fs:=fun te tS fs=>BB hT hI uN hK r (k+1) te tS fs Av.symm
  simp only[oK] at h
  split at h
  ·rename_i hg
   exact Qs hT hI uN ho (YE hg) ih h
  ·rename_i hg
   exact FP uN ho (YE hg) ih h
  ·rename_i d b want hg
   obtain⟨h1,h2⟩:=abt hg
   split at h
   ·obtain⟨k1,k2⟩:=tR h
    cases b with
    | true=>have:=oP te d _ (k1 rfl); rw[ou h1] at this; exact Qs hT hI uN ho h2 ih this
    | false=>have:=oP te d _ (k2 rfl); rw[ou h1] at this; exact FP uN ho h2 ih this
   ·obtain⟨k1,k2⟩:=tR h
    cases b with
    | true=>have:=oP te d _ (k1 rfl); rw[ou h1] at this; exact FP uN ho h2 ih this
    | false=>have:=oP te d _ (k2 rfl); rw[ou h1] at this; exact Qs hT hI uN ho h2 ih this
  ·exact h.elim
end Go.Tv
end
section
namespace Go.Tv
open Go Go.Di Go.Proofs
variable {P:Program} {ty:ir} {tt:TypeId→Option TT} {T:gP} {ι ι' w:mm} {S S':ax} {te mW:List TV} {env:List DV} {tS jR:List TB} {aM:bV} {call:bP} {yf:fI} {o:Oper} {aH nT:Nat} {B:List Nat} {r:TR} {ops:Array Oper} {fn:FuncId} {iJ:Bool} {fs:List dD}
def LA.St:LA→Type
 | .ex α k=>(x:α)×(k x).St
 | .st _=>Unit
 | .un _=>Empty
 | .dep _=>Empty
 | .pe _ _=>Empty
def LA.bd:(la:LA)→la.St→Bd
 | .ex _ k,⟨x,s⟩=>(k x).bd s
 | .st b,_=>b
theorem xg {K:Bd→Prop}:∀ {la:LA},la.some K→∃ s:la.St,K (la.bd s)
 | .ex _ k,⟨x,h⟩=>by
  obtain⟨s,h1⟩:=xg (la:=k x) h
  exact⟨⟨x,s⟩,h1⟩
 | .st b,h=>⟨(),h⟩
 | .un _,h=>h.elim
 | .dep _,h=>h.elim
 | .pe _ _,h=>h.elim
theorem LF {K:Bd→Prop}:∀ {la:LA},la.all K→∀ s:la.St,K (la.bd s)
 | .ex _ _,h,⟨x,s⟩=>LF (h x) s
 | .st _,h,_=>h
theorem TJ {b:Bd} {keep:Nat} {K:Prop} (h:RJ B b keep te tS K):Fits B (nj b.sl keep 0 te) (wO b tS) te tS∧dM b.dm∧K:=by
 obtain⟨h0,h⟩:=nw h
 simp only[aI] at h0
 obtain⟨l1,e1,k1,h⟩:=lH h
 obtain⟨l2,e2,k2,h⟩:=lH h
 obtain⟨h3,h4⟩:=kJ h
 exact⟨⟨xC e1 k1,jO e2 k2,h0.1,fun k hk=>bt.1 h0.2 k hk⟩,h3,h4⟩
theorem AY {b:Bd} {K:Prop} (h:LS B mW jR b te tS K):Fits B mW jR te tS∧dM b.dm∧K:=by
 obtain⟨h0,h⟩:=nw h
 simp only[aI] at h0
 obtain⟨l1,e1,k1,h⟩:=lH h
 obtain⟨l2,e2,k2,h⟩:=lH h
 obtain⟨h3,h4⟩:=kJ h
 exact⟨⟨xe e1 k1,WU e2 k2,h0.1,fun k hk=>bt.1 h0.2 k hk⟩,h3,h4⟩
theorem Qj {N:Nat} {c:Code} {Q:DX→List TV→List TB→Prop} {K:List TV→List TB→Prop} {f:List TV→List TB→(List TV→List TB→Prop)→Prop} (hf:∀ te tS K',f te tS K'→WT P ty aM call yf B LL fn iJ c te tS fun e te tS=>match e with | .normal=>K' te tS | e=>Q e te tS) (hK:∀ te tS,K te tS→WI P ty aM call yf B LL fn iJ N c te tS Q) :
  ∀ (n:Nat) (te:List TV) (tS:List TB),unK f K n te tS→WI P ty aM call yf B LL fn iJ (N+n) c te tS Q
 | 0,te,tS,h=>hK te tS h
 | n+1,te,tS,h=>VV ((hf te tS _ h).mono fun e te tS hq=>by
   cases e with
   | normal=>exact Qj hf hK n te tS hq
   | exit id=>exact hq
   | ret=>exact hq)
theorem VW {n m:Nat} {c:Code} {Q:DX→List TV→List TB→Prop} (hn:n≤m) (h:WI P ty aM call yf B LL fn iJ n c te tS Q):WI P ty aM call yf B LL fn iJ m c te tS Q:=by
 intro ι env S hR hB
 obtain⟨e,aD,S',ι',cT,cU,h1,h2⟩:=h ι env S hR hB
 exact⟨e,aD,S',ι',cT,cU,yQ hn h1,h2⟩
theorem HV {x:Operand} {v:Bool} {K:List TV→Prop} (hx:iK te x=some (.val (.bool v))) (h:Ql x te v K):K te:=by
 cases x with
 | tmp t =>
  simp only[iK,aB] at hx
  have:=oP te t _ (h:Dh te t _ K)
  rwa [ou] at this
  rw[aN] at hx
  cases e:te[t]? with
  | none=>rw[e] at hx; cases hx
  | some a=>rw[e] at hx; exact congrArg some hx
 | _=>exact h
variable {inl:Inl}
theorem NH (hT:sA T aM call) (hI:zB call T inl) {id:Nat} {draw:Bool} {J:List (Nat×LA)} {i lv:Nat} {Q:DX→List TV→List TB→Prop} (h:wv P ty tt T inl B J (.region id ops draw) i lv te tS Q):WT P ty aM call yf B LL fn iJ (.region id ops draw) te tS Q:=by
 simp only[wv] at h
 split at h
 ·split at h
  ·rename_i hn
   obtain⟨hd,h⟩:=nw h
   refine R2 hd hn ?_
   exact BB (md:=2) (n0:=tS.length) (rM:=tS) (Q:=fun te tS=>Q .normal te (mY tS)) hT hI (by omega) (fun te tS fs hk=>by
    obtain⟨hm,hk⟩:=nw hk
    exact aaC (ak _) hm (eu _ (K:=fun tS=>Q .normal te tS) hk)) ops.toList 0 te _ [] rfl (eu _ (K:=fun rM=>oK P ty tt T inl 2 tS.length ops ops.toList 0 te rM [] fun te tS fs=>aG (sw (Region.before ops) fs) (ei (mY tS) fun tS=>Q .normal te tS) False) h)
  ·rename_i hn
   obtain⟨hd,h⟩:=nw h
   refine RU hd hn ?_
   exact BB (B:=B) (md:=1) (n0:=0) (rM:=tS) (Q:=fun te tS=>Q .normal te tS) hT hI (by omega) (fun te tS fs hk _=>QY (ak _) hk) ops.toList 0 te _ [] rfl h rfl
 ·refine RY ?_
  exact BB (md:=0) (n0:=0) (rM:=tS) (Q:=fun te tS=>Q .normal te (mY tS)) hT hI (by omega) (fun te tS fs hk=>aax (ak _) (eu _ (K:=fun tS=>Q .normal te tS) hk)) ops.toList 0 te _ [] rfl h
theorem Of {c:Code} (h:J1 P c=some ops):uR P ops=false∧∃ id,c = .region id ops true:=by
 unfold J1 at h
 split at h
 ·split at h
  ·cases h
  ·rename_i hl; cases h; exact⟨Bool.eq_false_iff.2 hl,_,rfl⟩
 ·cases h
theorem CD {env:List DV} {dst:Option Tmp} {v:DV} {i:Nat} (h:dst≠some i):(gV env dst v)[i]? = env[i]? := by
 cases dst with
 | none=>rfl
 | some d =>
  simp only[gV]
  rw[aQ,if_neg (fun e=>h (by rw[e]))]
theorem yH {i:Nat}:∀ {l:List Oper} {env aD:List DV},pn P ty aM call yf ops S l env=some aD→(∀ o∈l,o.dst≠some i)→aD[i]? = env[i]?
 | [],env,aD,h,_=>by cases h; rfl
 | o::l,env,aD,h,hd=>by
  simp only[pn] at h
  split at h
  ·split at h
   ·rw[yH h fun o' lP=>hd o' (List.mem_cons_of_mem _ lP),CD (hd o (o5 ..))]
   ·cases h
  ·rw[yH h fun o' lP=>hd o' (List.mem_cons_of_mem _ lP),CD (hd o (o5 ..))]
theorem abf {u v:TV} {d:DV} (h:LeV u v) (hd:RT ι S v d):RT ι S u d:=by
 obtain⟨_,_,e,h1,-⟩:=aj (J5 (h [] [] .nil) (gf hd))
 cases e
 exact h1
theorem vW {sl:List (Nat×TV)} {keep:Nat}:∀ {i:Nat} {te cT:List TV} {env aD:List DV} {l:List Prop},dw ι S te env→dw ι S cT aD→cT.length=te.length→uT sl i cT=some l→dM l→(∀ j,keep.testBit (i+j)=true→aD[j]? = env[j]?)→dw ι S (nj sl keep i te) aD
 | _,[],[],_,_,_,_,h2,_,_,_,_=>by rw[aU h2]; exact cF
 | i,v::te,v'::cT,env,aD,l,h1,h2,hn,hp,hc,hk=>by
  obtain⟨d,m,rfl,a1,a2⟩:=aj h1
  obtain⟨d',m',rfl,b1,b2⟩:=aj h2
  have Jj:cT.length=te.length:=by simpa using hn
  have pK:∀ j,keep.testBit (i+1+j)=true→m'[j]? = m[j]? := fun j hj=>by
   have:=hk (j+1) (by rw[← gU,Nat.add_right_comm]; exact hj)
   simpa using this
  simp only[uT] at hp
  simp only[nj]
  split at hp
  ·rename_i p PE
   split at hp
   ·rename_i x y e1 e2
    cases hp
    obtain⟨k1,k2⟩:=mc hc
    exact aP (abf (J4 e1 k1) b1) (vW a2 b2 Jj e2 k2 pK)
   ·cases hp
  ·refine aP ?_ (vW a2 b2 Jj hp hc pK)
   split
   ·rename_i hb
    have:=hk 0 hb
    simp only[List.getElem?_cons_zero,aB] at this
    rw[this]; exact a1
   ·simp only[RT]
 | _,[],_::_,_,_,_,_,_,hn,_,_,_=>by simp at hn
 | _,_::_,[],_,_,_,_,_,hn,_,_,_=>by simp at hn
theorem BW:∀ {l:List Oper} {env aD:List DV},pn P ty aM call yf ops S l env=some aD→aD.length=env.length
 | [],env,aD,h=>by cases h; rfl
 | o::l,env,aD,h=>by
  have hp:∀ (dst:Option Tmp) (v:DV),(gV env dst v).length=env.length:=fun dst v=>by cases dst<;>simp[gV]
  simp only[pn] at h
  split at h
  ·split at h
   ·rw[BW h,hp]
   ·cases h
  ·rw[BW h,hp]
theorem RX {id:Nat} {b:Code} {Q:DX→List TV→List TB→Prop} {la:LA} {keep:Nat} (hd:kV ops (Region.before ops)=true) (hl:uR P ops=false) (hk:Rw keep ops=true)
  (h1:WQ P ty aM call yf ops tS 0 te fun cT=>la.some fun bd=>ask (uT bd.sl 0 cT) (Bh bd.dm True))
  (h2:∀ s:la.St,dM (la.bd s).dm→WT P ty aM call yf B LL fn iJ b (nj (la.bd s).sl keep 0 te) tS Q):WT P ty aM call yf B LL fn iJ (.seq (.region id ops true) b) te tS Q:=by
 intro ι env S hR hB
 obtain⟨aD,cT,k1,k2,k3⟩:=h1 ι env S hR
 rw[mz] at k1
 obtain⟨s,hs⟩:=xg k3
 obtain⟨l,e1,e2,e3⟩:=lH hs
 obtain⟨e3,-⟩:=kJ e3
 have Pk:cK ι (nj (la.bd s).sl keep 0 te) tS aD S:=by
  refine⟨vW hR.env k2.env ?_ e1 e2 fun j hj => ?_,k2.cells,k2.own,k2.xY,k2.inj,k2.mp⟩
  ·rw[← iB k2.env,← iB hR.env,BW k1]
  ·refine yH k1 fun o ho e => ?_
   have:=bt.1 hk o ho
   rw[gy] at hj
   rw[e] at this
   simp only[hj] at this
   cases this
 obtain⟨e,pW,vk,ι'',vq,vr,m1,m2,m3,m4,m5,m6⟩:=h2 s e3 ι aD S Pk hB
 refine⟨e,pW,vk,ι'',vq,vr,?_,m2,m3,m4,m5,m6⟩
 have:ct P ty aM call yf LL fn iJ (.region id ops true) env S=some (.normal,aD,S):=by
  simp only[uR,Bool.or_eq_false_iff] at hl; simp only[ct,oQ,if_true,hd,hl.2,gl,aF,if_false,k1,Option.map_some]
 rw[ct,this]
 exact m1
theorem lR (hT:sA T aM call) (hI:zB call T inl) {J:List (Nat×LA)}:∀ (c:Code) (i lv:Nat) (te:List TV) (tS:List TB) (Q:DX→List TV→List TB→Prop),wv P ty tt T inl B J c i lv te tS Q→WT P ty aM call yf B LL fn iJ c te tS Q
 | .skip,_,_,_,_,_,h=>VM h
 | .label _,_,_,_,_,_,h=>RZ h
 | .exit _,_,_,_,_,_,h=>VQ h
 | .ret,_,_,_,_,_,h=>aav h
 | .scope c,i,lv,te,tS,Q,h=>RS (lR hT hI c i lv te tS Q h)
 | .block id c,i,lv,te,tS,Q,h=>by
  refine R4 ((lR hT hI c i lv te tS _ h).mono fun e te tS hq => ?_)
  cases e with
  | normal=>exact hq
  | ret=>exact hq
  | exit jE =>
   dsimp only at hq ⊢
   split<;>simp_all
 | .cond x a b,i,lv,te,tS,Q,h=>by
  simp only[wv] at h
  split at h
  ·rename_i t hx
   obtain⟨h1,h2⟩:=tR h
   refine VR hx (fun e => ?_) (fun e => ?_)
   ·subst e; exact lR hT hI a i lv te tS Q (HV hx (h1 rfl))
   ·subst e; exact lR hT hI b (i+cnt a) lv te tS Q (HV hx (h2 rfl))
  ·exact h.elim
 | .seq a b,i,lv,te,tS,Q,h=>by
  simp only[wv] at h
  split at h
  ·rename_i la _
   split at h
   ·rename_i ops hq
    obtain⟨h1,h2⟩:=h
    obtain⟨hl,id,rfl⟩:=Of hq
    obtain⟨h0,h1⟩:=nw h1
    simp only[aI] at h0
    refine RX (la:=la) h0.1 hl h0.2 ?_ fun s hg=>lR hT hI b _ lv _ _ Q (dg _ (lZ (LF h2 s) hg))
    exact BB (B:=B) (md:=1) (n0:=0) (rM:=tS) (Q:=fun cT _=>la.some fun bd=>ask (uT bd.sl 0 cT) (Bh bd.dm True)) hT hI (by omega) (fun cT cU fs hk _=>QY (ak _) hk) ops.toList 0 te _ [] rfl h1 rfl
   obtain⟨h1,h2⟩:=h
   refine VP (fun s:la.St=>(nj (la.bd s).sl ((lv ||| nV b) &&& (2 ^ 400-1-(defs a))) 0 te,wO (la.bd s) tS)) (fun s=>dM (la.bd s).dm) ((lR hT hI a (i+1) (lv ||| nV b) te tS _ h1).mono fun e cT cU hq => ?_) fun s hg=>lR hT hI b (i+1+cnt a) lv _ _ Q (eu _ (dg _ (lZ (LF h2 s) hg)))
   cases e with
   | normal =>
    obtain⟨s,hs⟩:=xg hq
    obtain⟨k1,k2,-⟩:=AY hs
    exact⟨s,k1,k2⟩
   | exit id=>exact hq
   | ret=>exact hq
  ·refine QX ((lR hT hI a (i+1) (lv ||| nV b) te tS _ h).mono fun e te tS hq => ?_)
   cases e with
   | normal=>exact lR hT hI b _ _ te tS Q hq
   | exit id=>exact hq
   | ret=>exact hq
 | .loop c,i,lv,te,tS,Q,h=>by
  simp only[wv] at h
  split at h
  ·rename_i la _
   have hF:∀ te tS (K':List TV→List TB→Prop),wv P ty tt T inl B J c (i+1) (lv ||| nV c) te tS (fun e te tS=>match e with
    | .normal=>K' te tS
    | .exit id=>Q (.exit id) te tS
    | .ret=>Q .ret te tS)→WT P ty aM call yf B LL fn iJ c te tS fun e te tS=>match e with | .normal=>K' te tS | e=>Q e te tS:=fun te tS K' hf=>(lR hT hI c _ _ te tS _ hf).mono fun e te tS hq=>by
     cases e with
     | normal=>exact hq
     | exit id=>exact hq
     | ret=>exact hq
   refine NG (n:=1000000+min la.Yk 1000) (by unfold LL; omega) (Qj hF (fun te tS h => ?_) _ te tS h)
   generalize la.inner.at te tS=la at h
   split at h
   ·exact VW (by omega) (Qj (N:=0) hF (fun _ _ h=>h.elim) _ te tS h)
   ·obtain⟨h1,h2⟩:=h
    obtain⟨s0,h1⟩:=xg h1
    obtain⟨k1,k2,k3⟩:=TJ h1
    refine VX (fun s:la.St=>(nj (la.bd s).sl ((lv ||| nV c) &&& (2 ^ 400-1-(defs c))) 0 te,wO (la.bd s) tS)) (fun s=>dM (la.bd s).dm) (fun s=>(la.bd s).m) s0 k1 k2 k3 fun s hg=>(lR hT hI c (i+1) (lv ||| nV c) _ _ _ (eu _ (dg _ (lZ (LF h2 s) hg)))).mono fun e cT cU hq => ?_
    cases e with
    | normal =>
     obtain⟨s',hs⟩:=xg hq
     obtain⟨k1,k2,k3⟩:=AY hs
     exact⟨s',k1,k2,k3⟩
    | exit id=>exact hq
    | ret=>exact hq
  ·exact h.elim
 | .region id ops draw,i,lv,te,tS,Q,h=>NH hT hI h
 | .rangeFunc ..,_,_,_,_,_,h=>(by simp only[wv] at h)
 | .goto _,_,_,_,_,_,h=>(by simp only[wv] at h)
 | .refuse _,_,_,_,_,_,h=>(by simp only[wv] at h)
theorem AE {K K':TV→List TV→List Prop→Prop} (hK:∀ v cs f,K v cs f→K' v cs f):∀ {s:uO},s.some K→s.some K'
 | .ex _ k,⟨x,h⟩=>⟨x,AE (s:=k x) hK h⟩
 | .res _ _ _,h=>hK _ _ _ h
theorem LP {F:List TV→List TB→Prop} {E:DX→List TV→List TB→Prop} (h1:∀ te tS,F te tS→E .normal te tS∧E .ret te tS):∀ {e:DX} {te:List TV} {tS:List TB},NA F e te tS→E e te tS
 | .normal,_,_,h=>(h1 _ _ h).1
 | .ret,_,_,h=>(h1 _ _ h).2
 | .exit _,_,_,h=>h.elim
theorem YM {rs:List ResultVar} {mX:List (Option TT)} {s:uO} (h:Vx ty rs mX s te tS):aae ty rs mX (fun v=>s.vB v) .normal te tS∧aae ty rs mX (fun v=>s.vB v) .ret te tS:=by
 unfold Vx at h
 split at h
 ·rename_i vs hv
  have h:=dg (wH tS vs) (K:=fun vs=>aG (vs.all gQ&&(refs (kO (bT mX vs))).isEmpty) (s.some fun v _ facts=>ask (Zh (kO (bT mX vs)) v) (dM facts)) False) h
  obtain⟨h0,h⟩:=nw h
  simp only[aI,List.isEmpty_iff] at h0
  have:∃ vs,A9 ty te tS rs=some vs∧(wH tS vs).all gQ=true∧refs (kO (bT mX (wH tS vs)))=[]∧s.vB (kO (bT mX (wH tS vs))):=by
   refine⟨vs,hv,h0.1,h0.2,AE (fun v cs f hk => ?_) h⟩
   obtain⟨l,h1,h2,h3⟩:=lH hk
   exact⟨FD h1 h2,h3⟩
  exact⟨⟨trivial,this⟩,trivial,this⟩
 ·exact h.elim
theorem adA {rs:List ResultVar} {mX pL:List (Option TT)} {s:uO} (h:Z1 ty rs mX pL s te tS):Qh ty rs mX pL (fun v cs=>s.holds v cs) .normal te tS∧Qh ty rs mX pL (fun v cs=>s.holds v cs) .ret te tS:=by
 unfold Z1 at h
 split at h
 ·rename_i vs ts l hv
  obtain⟨h0,h⟩:=nw h
  simp only[aI,List.isEmpty_iff] at h0
  have:s.holds (kO (bT mX vs)) (bT pL ts):=by
   refine AE (fun v cs f hk => ?_) h
   obtain⟨l,h1,h2,hk⟩:=lH hk
   obtain⟨l',h3,h4,h5⟩:=lH hk
   exact⟨FD h1 h2,vF h3 h4,h5⟩
  exact⟨⟨trivial,vs,ts,hv,h0.1.1,h0.1.2,rfl,h0.2.1,h0.2.2,this⟩,trivial,vs,ts,hv,h0.1.1,h0.1.2,rfl,h0.2.1,h0.2.2,this⟩
 ·exact h.elim
theorem adz {rs:List ResultVar} {pL:List (Option TT)} {s:uO} (h:Z0 ty rs pL s te tS):aad ty rs pL (fun cs=>s.yq cs) .normal te tS∧aad ty rs pL (fun cs=>s.yq cs) .ret te tS:=by
 unfold Z0 at h
 split at h
 ·rename_i ts l hv
  obtain⟨h0,h⟩:=nw h
  simp only[aI,List.isEmpty_iff] at h0
  have:s.yq (bT pL ts):=by
   refine AE (fun v cs f hk => ?_) h
   obtain⟨l',h3,h4,h5⟩:=lH hk
   exact⟨vF h3 h4,h5⟩
  exact⟨⟨trivial,ts,hv,rfl,h0.1,h0.2,this⟩,trivial,ts,hv,rfl,h0.1,h0.2,this⟩
 ·exact h.elim
theorem aa9:∀ {vs:List TV} {ds:List DV},dw ι S vs ds→RT ι S (kO vs) (oneOf ds)
 | [],ds,h=>by rw[aU h]; simp only[kO,oneOf,RT]; exact cF
 | [v],ds,h=>by
  obtain⟨d,m',rfl,h1,h2⟩:=aj h
  rw[aU h2]; exact h1
 | v::u::l,ds,h=>by
  obtain⟨d,m',rfl,h1,h2⟩:=aj h
  obtain⟨d',m'',rfl,h3,h4⟩:=aj h2
  simp only[kO,oneOf,RT]
  exact aP h1 (aP h3 h4)
def XOK (P:Program) (T:gP):Prop:=∀ g fn j,T.X g=some (fn,j)→P.funcs[g]? = some fn∧fn.body.isSome=true
def Lev (P:Program) (ty:ir) (T:gP):Nat→bV→bP→Prop
 | 0,aM,call=>sA T aM call
 | d+1,aM,call=>sA T aM call∧∃ ZB QO yf',(∀ g fn,P.funcs[g]? = some fn→∀ a S,call g a S=uW P ty ZB QO yf' LL g fn a S)∧Lev P ty T d ZB QO
theorem qK {d:Nat} (h:Lev P ty T d aM call):sA T aM call:=by
 cases d with
 | zero=>exact h
 | succ d=>exact h.1
theorem vA (hX:XOK P T):∀ (d:Nat) {aM:bV} {call:bP},Lev P ty T d aM call→zB call T (GV P ty tt T d)
 | 0,_,_,_=>fun _ _ _ _ _ _ _ h=>h.elim
 | d+1,aM,call,hL=>by
  obtain⟨-,ZB,QO,yf',hb,UY⟩:=hL
  intro g fn j A tS K hx hi ι cZ S hR
  obtain⟨hf,hs⟩:=hX g fn j hx
  have hw:=lR (fn:=g) (iJ:=false) (yf:=yf') (qK UY) (vA hX d UY) _ _ _ _ _ _ (dg _ hi)
  have hlen:=iB hR.env
  have mP:cK ι (Nt fn.ntmps A) tS (cZ++List.replicate (fn.ntmps-cZ.length) bh) S :=
   ⟨fB hR.env (by rw[hlen]; exact tF _ _),hR.cells,hR.own,hR.xY,hR.inj,hR.mp⟩
  obtain⟨e,aD,S',ι',cT,cU,h1,h2,h3,h4,h5,h6⟩:=hw ι _ S mP abi
  have key:ZZ ty fn.results.toList K cT cU→(e = .normal∨e = .ret)→∃ d S' ι' v cU,call g cZ S=some (d,S')∧cK ι' [v] cU [d] S'∧pg (gv 0 tS) cU∧Fr (gv 0 tS) ι S ι' S'∧Nn S.length S S'∧K v cU:=by
   intro hk he
   unfold ZZ at hk
   split at hk
   ·rename_i vs hv
    obtain⟨ds,k1,k2⟩:=tI h2 hv
    refine⟨oneOf ds,S',ι',kO vs,cU,?_,⟨gf (aa9 k2),h2.cells,h2.own,h2.xY,h2.inj,h2.mp⟩,h3,h4,h5,hk⟩
    rw[hb g fn hf]
    unfold zA at h1
    simp only[uW]
    cases hc:fn.body with
    | none=>rw[hc] at hs; cases hs
    | some c =>
     rw[hc] at h1
     simp only[Option.getD_some] at h1
     simp only[h1]
     rcases he with rfl | rfl<;>simp only[k1,Option.map_some]
   ·exact hk.elim
  cases e with
  | normal=>exact key h6 (.inl rfl)
  | ret=>exact key h6 (.inr rfl)
  | exit id=>exact h6.elim
def vcI (T:gP) (d:Nat) (f:Func) (mX:List (Option TT)) (J:List (Nat×LA)) (a:List TV) (s:uO):Prop:=eD (Nt f.ntmps a) fun te=>wv Tp Ty O2 T (GV Tp Ty O2 T d) [] J (zA f) 0 (AJ f.results.toList) te [] (NA (Vx Ty f.results.toList mX s))
def abN (T:gP) (d:Nat) (f:Func) (mX pL:List (Option TT)) (J:List (Nat×LA)) (a cs:List TV) (s:uO):Prop:=eD (Nt f.ntmps a) fun te=>wv Tp Ty O2 T (GV Tp Ty O2 T d) [0] J (zA f) 0 (AJ f.results.toList) te [.cells cs] (NA (Z1 Ty f.results.toList mX pL s))
def vcN (T:gP) (d:Nat) (f:Func) (pL:List (Option TT)) (J:List (Nat×LA)) (a:List TV) (s:uO):Prop:=eD (Nt f.ntmps a) fun te=>wv Tp Ty O2 T (GV Tp Ty O2 T d) [] J (zA f) 0 (AJ f.results.toList) te [] (NA (Z0 Ty f.results.toList pL s))
def jT (bG:bV) (k:Nat) (T:gP):Prop:=XOK Tp T∧∀ n,sA T (vt bG (n+k)) (mV bG (n+k))
def gP.cI (T:gP) (f:FuncId) (S:List TV→Sp):gP:={ T with I:=fun g a=>if g=f then S a else T.I g a }
def gP.uJ (T:gP) (f:FuncId) (S:List TV→List TV→Sp):gP:={ T with C:=fun g a c=>if g=f then S a c else T.C g a c }
def gP.VG (T:gP) (f:FuncId) (S:List TV→Sp):gP:={ T with N:=fun g a=>if g=f then S a else T.N g a }
def gP.VF (T:gP) (f:FuncId) (fn:Func) (j:List (Nat×LA)):gP:={ T with X:=fun g=>if g=f then some (fn,j) else T.X g }
variable {bG:bV} {k:Nat}
theorem dX (h:jT bG k T):jT bG (k+1) T:=⟨h.1,fun n=>by have:=h.2 (n+1); rwa [Nat.add_right_comm,gU] at this⟩
theorem oT (h:jT bG k T):∀ (d n:Nat),Lev Tp Ty T d (vt bG (n+(k+d))) (mV bG (n+(k+d)))
 | 0,n=>h.2 n
 | d+1,n=>by
  refine⟨?_,vt bG (n+(k+d)),mV bG (n+(k+d)),Xy bG (n+(k+d)),fun g fn hf a S => ?_,oT h d n⟩
  ·have:=h.2 (n+(d+1)); rwa [gU,Nat.add_comm (d+1) k] at this
  ·rw[show n+(k+(d+1))=(n+(k+d))+1 by omega]
   simp only[zy,ee,hf]
   rfl
theorem Lz {f:FuncId} {S:List TV→Sp} (hT:jT bG k T) (h:∀ n a p s,S a=some (p,s)→dM p→sE (vt bG (n+k)) f a fun v=>s.vB v):jT bG k (T.cI f S):=⟨hT.1,fun n=>⟨fun g a p s hs hp=>by
 simp only[gP.cI] at hs
 split at hs
 ·rename_i e; subst e; exact h n a p s hs hp
 ·exact(hT.2 n).I g a p s hs hp,(hT.2 n).C,(hT.2 n).N⟩⟩
theorem acP {f:FuncId} {S:List TV→List TV→Sp} (hT:jT bG k T) (h:∀ n a cs p s,S a cs=some (p,s)→dM p→zC (mV bG (n+k)) f a cs fun v cs=>s.holds v cs):jT bG k (T.uJ f S):=⟨hT.1,fun n=>⟨(hT.2 n).I,fun g a cs p s hs hp=>by
 simp only[gP.uJ] at hs
 split at hs
 ·rename_i e; subst e; exact h n a cs p s hs hp
 ·exact(hT.2 n).C g a cs p s hs hp,(hT.2 n).N⟩⟩
theorem acO {f:FuncId} {S:List TV→Sp} (hT:jT bG k T) (h:∀ n a p s,S a=some (p,s)→dM p→Bz (vt bG (n+k)) (mV bG (n+k)) f a fun cs=>s.yq cs):jT bG k (T.VG f S):=⟨hT.1,fun n=>⟨(hT.2 n).I,(hT.2 n).C,fun g a p s hs hp=>by
 simp only[gP.VG] at hs
 split at hs
 ·rename_i e; subst e; exact h n a p s hs hp
 ·exact(hT.2 n).N g a p s hs hp⟩⟩
theorem X1 {f:FuncId} {fn:Func} {j:List (Nat×LA)} (hT:jT bG k T) (hf:Tp.funcs[f]? = some fn) (hb:fn.body.isSome=true):jT bG k (T.VF f fn j):=⟨fun g wm j' hx=>by
 simp only[gP.VF] at hx
 split at hx
 ·rename_i e; subst e; cases hx; exact⟨hf,hb⟩
 ·exact hT.1 g wm j' hx,fun n=>⟨(hT.2 n).I,(hT.2 n).C,(hT.2 n).N⟩⟩
def T0:gP where
 I:=fun g a=>match g,a with
  | 12,[]=>some ([],.res (kC true) [] [])
  | _,_=>none
 C:=fun _ _ _=>none
 N:=fun _ _=>none
theorem eO (tk:uK bG):jT bG 0 T0:=by
 refine⟨fun _ _ _ h=>(by cases h),fun n=>⟨fun g a p s hs _ => ?_,fun _ _ _ _ _ hs=>(by cases hs),fun _ _ _ _ hs=>(by cases hs)⟩⟩
 simp only[T0] at hs
 split at hs
 ·cases hs
  intro cZ hd
  rw[aU hd]
  refine⟨.val (.bool true),kC true,?_,rfl,by simp only[RT],rfl,rfl,trivial⟩
  simp only[Ah,kS,tk.fit,DV.pure,DV.jV,if_true]
 ·cases hs
end Go.Tv
end
