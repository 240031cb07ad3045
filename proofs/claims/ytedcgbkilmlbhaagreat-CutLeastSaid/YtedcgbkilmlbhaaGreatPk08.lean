import Derived.Test.YtedcgbkilmlbhaaGreatPk07
section
namespace Go.Tv
open Go Go.Di Go.Proofs
variable {P:Program} {ty:gF} {tt:TypeId→Option TT} {T:gd} {ι ι' w:lW} {S S':av} {te mh:List TV} {env:List DV} {tS jh:List TB} {aI:bP} {call:bM} {yf:eW} {o:Oper} {aB nT:Nat} {B:List Nat} {r:TR} {ops:Array Oper} {L:Nat} {fn:FuncId} {iA:Bool} {fs:List dh}
theorem RH {md:Nat} (h:md≤2):md=0∨md=1∨md=2:=by omega
theorem Q4 {α β:Type} {x:Option α} {f:α→β} {q:β×Prop} (h:x.map (fun a=>(f a,True))=some q):q.2:=by
 simp only[ah] at h
 obtain⟨_,_,rfl⟩:=h
 trivial
theorem Gf {q:TV×Prop} (hc:wT o=false) (h:bL P ty tt te tS o=some q):q.2:=by
 unfold wT at hc
 unfold bL at h
 cases ho:o.op
 all_goals simp only[ho] at hc h
 all_goals try (cases hc; done)
 all_goals repeat' (split at h)
 all_goals first
  | (cases h; done)
  | (cases h; trivial)
  | exact Q4 h
  | (simp only[ah] at h; obtain⟨_,_,rfl⟩:=h; trivial)
theorem QV {q:TR} (hc:wT o=false) (h:stepT P ty tt te tS o nT=some q):q.c:=by
 have hp:∀ {q:TR},((bL P ty tt te tS o).map fun r=>(⟨r.1,te,tS,tU te o,r.2⟩:TR))=some q→q.c:=by
  intro q h
  simp only[ah] at h
  obtain⟨a,h1,rfl⟩:=h
  exact Gf hc h1
 unfold stepT at h
 split at h
 ·split at h
  ·cases h; trivial
  ·cases h
 ·split at h
  ·split at h
   ·cases h; trivial
   ·cases h
  ·cases h
 ·split at h
  ·split at h
   ·split at h
    ·simp only[ah] at h
     obtain⟨_,_,rfl⟩:=h
     trivial
    ·cases h
   ·cases h
  ·cases h
 ·rename_i ho
  simp only[wT,ho] at hc
  cases hc
 ·exact hp h
def Nb (o:Oper):Prop:=(∃ op t x y u,o.op = .binOp op t x y u)∨∃ op t x,o.op = .unOp op t x
theorem vS {v:TV} (hb:Nb o) (h:bL P ty tt te tS o=some (v,True)):stepT P ty tt te tS o nT=some ⟨v,te,tS,[],True⟩:=by
 rcases hb with ⟨op,t,x,y,u,ho⟩ | ⟨op,t,x,ho⟩<;>simp only[stepT,ho,h,Option.map_some,tU]
theorem MX {v:TV} {c:Prop} (h:Ag te o=some (v,c)):Nb o:=by
 unfold Ag at h
 split at h
 ·rename_i ho; exact .inl ⟨_,_,_,_,_,ho⟩
 ·rename_i ho; exact .inl ⟨_,_,_,_,_,ho⟩
 ·rename_i ho; exact .inl ⟨_,_,_,_,_,ho⟩
 ·rename_i ho; exact .inr ⟨_,_,_,ho⟩
 ·rename_i ho; exact .inl ⟨_,_,_,_,_,ho⟩
 ·cases h
theorem UT {b:Bool} (h:Oa P te o=some b):Nb o:=by
 unfold Oa at h
 split at h
 ·rename_i ho; exact .inl ⟨_,_,_,_,_,ho⟩
 ·rename_i ho; exact .inl ⟨_,_,_,_,_,ho⟩
 ·cases h
theorem Zf (hb:Nb o):mZ o=false:=by
 rcases hb with ⟨op,t,x,y,u,ho⟩ | ⟨op,t,x,ho⟩<;>simp only[mZ,ho]
theorem Rw {g:FuncId} {targs:List TV} (h:OP tt te o=some (g,targs)):∃ f args argTypes fs cs xs,o.op = .call { callee := .value f,args,argTypes }∧gE te f=some (.fn g fs cs)∧nP te args.toList=some xs∧(fs++xs++cs).all gf=true∧bN (iK tt fs argTypes) (fs++xs++cs)=targs:=by
 unfold OP at h
 split at h
 ·rename_i f args argTypes ho
  split at h
  ·rename_i g' fs cs xs h1 h2
   split at h
   ·rename_i h3
    cases h
    exact⟨f,args,argTypes,fs,cs,xs,ho,h1,h2,h3,rfl⟩
   ·cases h
  ·cases h
 ·cases h
theorem Mo {g:FuncId} {kp:Nat} {targs ts:List TV} (h:Ih tt te tS o=some (g,kp,targs,ts)):∃ f args argTypes fs cs xs,o.op = .call { callee := .value f,args,argTypes }∧gE te f=some (.fn g fs cs)∧nP te args.toList=some xs∧u7 kp (iK tt fs argTypes) (fs++xs++cs)=some targs∧(fs++xs++cs).any isRef=true∧tS[kp]? = some (.cells ts)∧iD ts=[]:=by
 unfold Ih at h
 split at h
 ·rename_i f args argTypes ho
  split at h
  ·rename_i g' fs cs xs h1 h2
   split at h
   ·split at h
    ·rename_i h4 h5
     split at h
     ·rename_i h6
      simp only[aG,List.isEmpty_iff] at h6
      cases h
      exact⟨f,args,argTypes,fs,cs,xs,ho,h1,h2,h4,h6.1,h5,h6.2⟩
     ·cases h
    ·cases h
   ·cases h
  ·cases h
 ·cases h
theorem Mp {g:FuncId} {kp:Nat} {targs ts:List TV} (h:Ii tt te tS o=some (g,kp,targs,ts)):∃ f args argTypes fs cs xs off rest,o.op = .call { callee := .value f,args,argTypes }∧gE te f=some (.fn g fs cs)∧nP te args.toList=some xs∧fs++xs++cs = .ptr kp off::rest∧rest.all gf=true∧tS[kp]? = some (.cells ts)∧ts.all uZ=true∧targs = .ptr 0 off::bN (iK tt fs argTypes).tail rest:=by
 unfold Ii at h
 split at h
 ·rename_i f args argTypes ho
  split at h
  ·rename_i g' fs cs xs h1 h2
   split at h
   ·rename_i kp' off rest hl
    split at h
    ·rename_i wm h5
     split at h
     ·rename_i h6
      simp only[aG] at h6
      cases h
      exact⟨f,args,argTypes,fs,cs,xs,off,rest,ho,h1,h2,hl,h6.1,h5,h6.2,rfl⟩
     ·cases h
    ·cases h
   ·cases h
  ·cases h
 ·cases h
theorem Gv {md:Nat} {v:TV} {cs:List TV} {K:Prop} (h:FD md v cs K):(md=2→JQ v=true∧cs.all uZ=true)∧K:=by
 unfold FD at h
 split at h
 ·split at h
  ·rename_i h1
   simp only[aG] at h1
   exact⟨fun _=>h1,h⟩
  ·exact h.elim
 ·rename_i hn
  exact⟨fun e=>(hn e).elim,h⟩
theorem rJ {k:Nat}:∀ {tS:List TB} {i:Nat},k∈fK i tS↔i≤k∧∃ c,tS[k-i]? = some (.cells c)
 | [],i=>by simp[fK]
 | b::l,i=>by
  have ih:=rJ (k:=k) (tS:=l) (i:=i+1)
  have hs:∀ (c:List TV),i+1≤k→((b::l)[k-i]? = some (.cells c)↔l[k-(i+1)]? = some (.cells c)):=fun c h=>by
   rw[show k-i=(k-(i+1))+1 by omega,List.getElem?_cons_succ]
  cases b with
  | cells c0 =>
   simp only[fK,bH,ih]
   constructor
   ·rintro(rfl | ⟨h1,c,h2⟩)
    ·exact⟨ai _,c0,by simp⟩
    ·exact⟨by omega,c,(hs c h1).2 h2⟩
   ·rintro⟨h1,c,h2⟩
    by_cases e:k=i
    ·exact .inl e
    ·exact .inr ⟨by omega,c,(hs c (by omega)).1 h2⟩
  | none =>
   simp only[fK,ih]
   constructor
   ·rintro⟨h1,c,h2⟩; exact⟨by omega,c,(hs c h1).2 h2⟩
   ·rintro⟨h1,c,h2⟩
    by_cases e:k=i
    ·subst e; simp at h2
    ·exact⟨by omega,c,(hs c (by omega)).1 h2⟩
  | map kt0 c0 =>
   simp only[fK,ih]
   constructor
   ·rintro⟨h1,c,h2⟩; exact⟨by omega,c,(hs c h1).2 h2⟩
   ·rintro⟨h1,c,h2⟩
    by_cases e:k=i
    ·subst e; simp at h2
    ·exact⟨by omega,c,(hs c (by omega)).1 h2⟩
  | rows t0 e0 c0 z0 =>
   simp only[fK,ih]
   constructor
   ·rintro⟨h1,c,h2⟩; exact⟨by omega,c,(hs c h1).2 h2⟩
   ·rintro⟨h1,c,h2⟩
    by_cases e:k=i
    ·subst e; simp at h2
    ·exact⟨by omega,c,(hs c (by omega)).1 h2⟩
  | own e0 s0 =>
   simp only[fK,ih]
   constructor
   ·rintro⟨h1,c,h2⟩; exact⟨by omega,c,(hs c h1).2 h2⟩
   ·rintro⟨h1,c,h2⟩
    by_cases e:k=i
    ·subst e; simp at h2
    ·exact⟨by omega,c,(hs c (by omega)).1 h2⟩
theorem Gr {k:Nat} {c:List TV} (h:tS[k]? = some (.cells c)):k∈fK 0 tS:=rJ.2 ⟨jD _,c,h⟩
theorem YU:ow (fK 0 tS) tS:=fun _ hk=>(rJ.1 hk).2
mutual
theorem TX (hi:∀ k,zc tS k=true→ι' k=ι k):∀ (v:TV) (d:DV),RT ι S v d→RT ι' S' (mg tS v) d
 | .unk,_,_=>by simp only[mg,RT]
 | .val _,d,k=>by cases d<;>simp only[RT,mg] at k ⊢; exact k
 | .gZ,d,k=>by cases d<;>simp only[RT,mg] at k ⊢; exact k
 | .agg l,d,k=>by cases d<;>simp only[RT,mg] at k ⊢; exact mV hi l _ k
 | .gI l,d,k=>by cases d<;>simp only[RT,mg] at k ⊢; exact mV hi l _ k
 | .sl t l .no,d,k=>by cases d<;>simp only[RT,mg] at k ⊢; exact k
 | .sl t l .full,d,k=>by cases d<;>simp only[RT,mg] at k ⊢; exact k
 | .sl t l (.nQ g),d,k=>by cases d<;>simp only[RT,mg] at k ⊢; exact⟨k.1,trivial⟩
 | .ptr id off,d,k=>by
  cases d<;>simp only[RT] at k
  simp only[mg]
  split
  ·rename_i hc
   simp only[RT]
   exact⟨(hi _ hc).trans k.1,k.2⟩
  ·simp only[RT]
 | .eS t l i off,d,k=>by cases d<;>simp only[RT,mg] at k ⊢; exact k
 | .mp id,d,_=>by simp only[RT,mg]
 | .so g t,d,_=>by simp only[RT,mg]
 | .sp g t i off,d,_=>by simp only[RT,mg]
 | .fn f a b,d,k=>by cases d<;>simp only[RT,mg] at k ⊢; exact⟨k.1,mV hi a _ k.2.1,mV hi b _ k.2.2⟩
theorem mV (hi:∀ k,zc tS k=true→ι' k=ι k):∀ (l:List TV) (m:List DV),dg ι S l m→dg ι' S' (oS tS l) m
 | [],m,k=>by rw[aW k]; simp only[oS]; exact cz
 | a::l,m,k=>by
  obtain⟨d,m',rfl,h1,h2⟩:=ak k
  simp only[oS]
  exact aY (TX hi a d h1) (mV hi l m' h2)
end
def La (call:bM) (g:FuncId) (A:List TV) (tS:List TB) (K:TV→List TB→Prop):Prop :=
 ∀ ι cR S,cM ι A tS cR S→∃ d S' ι' v cN,call g cR S=some (d,S')∧cM ι' [v] cN [d] S'∧ow (fK 0 tS) cN∧Fr (fK 0 tS) ι S ι' S'∧Nn S.length S S'∧K v cN
theorem Rp {f:Operand} {args:Array Operand} {argTypes:Array TypeId} {g:FuncId} {fs cs xs:List TV} {K:TV→List TB→Prop} (hop:o.op = .call { callee := .value f,args,argTypes }) (hf:gE te f=some (.fn g fs cs)) (ha:nP te args.toList=some xs) (hr:(fs++xs++cs).any isRef=true∨ty.h o=1)
  (hc:La call g (fs++xs++cs) tS K):Does P ty aI call yf B o nT te tS false fun v cL cN _=>cL=oS tS te∧K v cN:=by
 intro ι w env S aB hR hB hw hT RN hS
 obtain⟨zB,iU,Lb,k1,k2,k3⟩:=kV hR.env hf ha
 obtain⟨d,S',ι',v,cN,m1,m2,m3,m4,m5,m6⟩:=hc ι _ S ⟨k3,hR.cells,hR.own,hR.xH,hR.inj,hR.mp⟩
 obtain⟨w',hw'⟩:=HY m2
 obtain⟨_,_,e,m7,-⟩:=ak m2.env
 cases e
 have aam:∀ k,k∈B→k∈fK 0 tS:=fun k hk=>by obtain⟨l,h1⟩:=hB k hk; exact Gr h1
 refine⟨d,S',ι',w',v,oS tS te,cN,⟨none,true⟩,⟨none,true⟩,fun _ => ?_,fun e=>(by cases e),⟨fun e=>e,fun l hl=>(by cases hl)⟩,fun l m hl=>(by cases hl),⟨mV (fun k hk => ?_) _ _ hR.env,m2.cells,m2.own,m2.xH,m2.inj,m2.mp⟩,m7,hw',fun e=>(by cases e),⟨m4.rest,m4.ours,fun k hk=>m4.base k (aam k hk)⟩,fun k hk=>m3 k (aam k hk),⟨m5.1,fun j hj eZ=>m5.2 j (by have:=(aJ.1 eZ).1; omega) eZ⟩,rfl,m6⟩
 ·rcases hr with hr | hr
  ·have:=uh hr k3
   simp only[af,hop,k1,k2,u6,this,aD,if_false,m1]
   split<;>rfl
  ·simp only[af,hop,k1,k2,hr,m1]
 ·unfold zc at hk
  split at hk
  ·rename_i c hc; exact m4.base k (Gr hc)
  ·cases hk
theorem UB {md:Nat} {A:List TV} {fn:Func} {j:List (Nat×LA)} (h:Xk ty T md te o=some (A,fn,j)):md=0∧∃ f args argTypes g fs cs xs,o.op = .call { callee := .value f,args,argTypes }∧gE te f=some (.fn g fs cs)∧nP te args.toList=some xs∧((fs++xs++cs).any isRef=true∨ty.h o=1)∧A=fs++xs++cs∧T.X g=some (fn,j):=by
 unfold Xk at h
 split at h
 ·split at h
  ·rename_i g A' h1
   split at h
   ·rename_i uH j' h2
    cases h
    unfold aai at h1
    split at h1
    ·rename_i f args argTypes ho
     split at h1
     ·rename_i g' fs cs xs e1 e2
      split at h1
      ·rename_i hr
       cases h1
       exact⟨rfl,f,args,argTypes,g,fs,cs,xs,ho,e1,e2,by simpa using hr,rfl,h2⟩
      ·cases h1
     ·cases h1
    ·cases h1
   ·cases h
  ·cases h
 ·cases h
theorem o6 {b:Bool} {c:Prop} (h:Xh ty te o=some (b,c)) (hc:c):(∃ op t x y u,o.op = .binOp op t x y u)∧∀ {env:List DV},dg ι S te env→∀ aB,af P ty aI call yf (iB env) o S aB=some (.val (.bool b),S):=by
 unfold Xh at h
 split at h
 ·rename_i t x y _ ho
  refine⟨⟨_,_,_,_,_,ho⟩,fun {env} hE aB => ?_⟩
  split at h
  ·rename_i h1 h2 h3
   cases h
   obtain⟨d1,k1,k2⟩:=bt hE h2
   obtain⟨d2,k3,k4⟩:=bt hE h3
   cases d1<;>simp only[RT] at k2
   cases d2<;>simp only[RT] at k4
   obtain⟨rfl,rfl,rfl⟩:=k4
   rename_i rows tok f
   have hr:rows.isEmpty=false:=by
    have:=kz k2.1
    cases rows with
    | nil=>exact absurd (dY (by simpa using this.symm)) hc
    | cons=>rfl
   simp only[af,ho,valOf,k1,k3,Option.bind_some,xI,z7,h1,HQ,hr,aD,if_false,Option.map_some]
  ·rename_i h1 h2 h3
   cases h
   obtain⟨d1,k1,k2⟩:=bt hE h2
   obtain⟨d2,k3,k4⟩:=bt hE h3
   cases d1<;>simp only[RT] at k2
   cases d2<;>simp only[RT] at k4
   obtain⟨rfl,rfl,rfl⟩:=k4
   obtain⟨rfl,rfl,rfl⟩:=k2
   simp only[af,ho,valOf,k1,k3,Option.bind_some,xI,z7,h1,HQ,List.isEmpty_nil,if_true,Option.map_some]
  ·cases h
 ·cases h
theorem Gx {b:Value} (hb:∃ op t x y u,o.op = .binOp op t x y u) (h:∀ {ι:lW} {S:av} {env:List DV},dg ι S te env→∀ aB,af P ty aI call yf (iB env) o S aB=some (.val b,S)) (dr:Bool):Does P ty aI call yf B o nT te tS dr fun v cL cN ft=>v = .val b∧cL=te∧cN=tS∧ft=⟨some [],false⟩:=by
 intro ι w env S aB hR hB hw hT hn hS
 obtain⟨op,t,x,y,u,ho⟩:=hb
 refine⟨.val b,S,ι,w,.val b,te,tS,⟨some [],false⟩,⟨some [],false⟩,fun _=>h hR.env aB,fun _ => ?_,⟨id,fun l hl=>⟨[],rfl,fun j hj=>(by cases hj)⟩⟩,fun l m _ hm j hj=>(by cases hm; cases hj),hR,by simp only[RT],hw,fun _ _ _=>rfl,Fr.refl _ _ _,hB,fJ _ _,rfl,rfl,rfl,rfl⟩
 have:=h hR.env aB
 simp only[aH,ho]
 rw[this]; rfl
theorem X9 {k:Nat} {b:Value} {Q:List TV→Prop} (ho:ops[k]? = some o) (hw:er ops te o=some true) (hb:∃ op t x y u,o.op = .binOp op t x y u) (h:∀ {ι:lW} {S:av} {env:List DV},dg ι S te env→∀ aB,af P ty aI call yf (iB env) o S aB=some (.val b,S)) (hq:WQ P ty aI call yf ops tS (k+1) (lY te o.dst (.val b)) Q):WQ P ty aI call yf ops tS k te Q:=by
 intro ι env S hR
 obtain⟨aC,cL,n1,n2,n3⟩:=hq ι (jj env o.dst (.val b)) S (mz hR (by simp only[RT]) _)
 refine⟨aC,cL,?_,n2,n3⟩
 rw[mF ho]
 have hs:=h hR.env S.length
 obtain⟨op,t,x,y,u,hop⟩:=hb
 have hq:cS P ty aI call yf (iB env) o S=some (.val b):=by
  simp only[cS,hop]
  rw[hs]; rfl
 simp only[oy,gO hR.env hw,if_true,hq,n1]
def Dr (P:Program) (ty:gF) (aI:bP) (call:bM) (yf:eW) (B:List Nat) (ops:Array Oper) (Q:List TV→List TB→Prop) (md:Nat) (qz:List TB) (k:Nat) (te:List TV) (tS:List TB) (fs:List dh):Prop :=
 match md with
 | 0=>WL P ty aI call yf B ops k te tS Q
 | 1=>tS=qz→WQ P ty aI call yf ops qz k te fun te=>Q te qz
 | _=>WD P ty aI call yf B ops k te tS fs Q
theorem Ef {Q:List TV→List TB→Prop} {md k:Nat} {qz:List TB} (s5:md≤2) (ho:ops[k]? = some o) (hw:er ops te o=some false) {K:KO} (hK:∀ te tS fs,K te tS fs→Dr P ty aI call yf B ops Q md qz (k+1) te tS fs) (h:JF o te tS fs K):Dr P ty aI call yf B ops Q md qz k te tS fs:=by
 have h1:=hK _ _ _ (iX (K:=fun te=>K te tS (fs++[gv])) h)
 rcases RH s5 with rfl | rfl | rfl
 ·exact Ti ho hw h1
 ·exact fun e=>Tg ho hw (h1 e)
 ·exact Tq ho hw h1
variable {inl:Inl}
def x4 (call:bM) (T:gd) (inl:Inl):Prop:=∀ g fn j A tS (K:TV→List TB→Prop),T.X g=some (fn,j)→inl fn j A tS K→La call g A tS K
def S7 (ty:gF) (md:Nat) (o:Oper) (BB:List TV) (E2:List TB) (te:List TV) (tS:List TB):Prop :=
 match md with
 | 0=>HN ty BB E2 o=some (te,tS)
 | _=>BB=te∧E2=tS
theorem UX (hT:qN T aI call) (hI:x4 call T inl) {Q:List TV→List TB→Prop} {md n0 k:Nat} {qz E2:List TB} {BB:List TV} (s5:md≤2) (ho:ops[k]? = some o) (hw:er ops BB o=some true) (qE:S7 ty md o BB E2 te tS) {K:KO} (hK:∀ te tS fs,K te tS fs→Dr P ty aI call yf B ops Q md qz (k+1) te tS fs)
  (hn:Du tS (Lu md n0 k tS)=true) (h:OQ ty tt T inl md o te tS fs K):Dr P ty aI call yf B ops Q md qz k BB E2 fs:=by
 unfold OQ at h
 split at h
 ·rename_i A fn j hx
  obtain⟨rfl,f,args,argTypes,g,fs1,cs1,xs,c1,c2,c3,c4,rfl,c5⟩:=UB hx
  refine nF ho hw qE (Rp c1 c2 c3 c4 (hI g fn j _ tS _ c5 h)) ?_
  rintro v cL cN ft ⟨rfl,hv⟩
  exact hK _ _ _ (iX (K:=fun te=>K te cN fs) (cU (oS tS te) (K:=fun te=>jH te o.dst v fun te=>K te cN fs) (gX v (K:=fun v=>dW (oS tS te) fun te=>jH te o.dst v fun te=>K te cN fs) hv)))
 split at h
 ·exact h.elim
 rename_i hh
 replace hh:ty.h o≠1:=by simpa using hh
 split at h
 ·rename_i g targs hc
  obtain⟨f,args,argTypes,fs1,cs1,xs,c1,c2,c3,c4,c5⟩:=Rw hc
  split at h
  ·rename_i p s hm hs
   have hm:md=0:=by simpa using hm
   subst hm
   obtain⟨hp,h⟩:=jT h
   refine nF ho hw qE (Jk c1 hh c2 c3 c4 c5 (hT.N _ _ _ _ hs hp)) ?_
   rintro v cL cN ft ⟨ts,hq,rfl,rfl,rfl⟩
   have e:qI tS tS.length (.cells ts)=tS++[.cells ts]:=by unfold qI; rw[if_neg (Nat.lt_irrefl _)]
   rw[e]
   exact hK _ _ _ (iX (K:=fun te=>K te (tS++[.cells ts]) fs) (Jo (R:=fun cs=>jH cL o.dst (.ptr tS.length 0) fun te=>K te (tS++[.cells cs]) fs) h hq))
  ·split at h
   ·rename_i p s hs
    obtain⟨hp,h⟩:=jT h
    have hsp:=hT.I _ _ _ _ hs hp
    have fin:∀ v,s.tV v→Dr P ty aI call yf B ops Q md qz (k+1) (lY te o.dst v) tS (fs++[gv]):=fun v hv =>
     hK _ _ _ (iX (K:=fun te=>K te tS (fs++[gv])) (gX v (K:=fun v=>jH te o.dst v fun te=>K te tS (fs++[gv])) (Jn (R:=fun v=>iI v fun v=>jH te o.dst v fun te=>K te tS (fs++[gv])) h hv)))
    rcases RH s5 with rfl | rfl | rfl
    ·skip
     refine nF ho hw qE (Bm c1 hh c2 c3 c4 c5 hsp false) ?_
     rintro v cL cN ft ⟨hv,rfl,rfl,-⟩
     exact fin v hv
    ·obtain⟨rfl,rfl⟩:=qE
     exact fun e=>PT ho hw c1 hh c2 c3 c4 c5 hsp fun v hv=>fin v hv e
    ·skip
     obtain⟨rfl,rfl⟩:=qE
     refine zP ho hw hn (Bm c1 hh c2 c3 c4 c5 hsp true) ?_
     rintro v cL cN ft ⟨hv,rfl,rfl,rfl⟩
     exact fin v hv
   ·exact h.elim
 ·split at h
  ·rename_i g kp targs ts hc
   split at h
   ·rename_i p s hs
    obtain⟨hp,h⟩:=jT h
    have hsp:=hT.C _ _ _ _ _ hs hp
    have all:∀ v cs,s.holds v cs→FD md v cs (iI v fun v=>jH te o.dst v fun te=>dW cs fun cs=>dI (tS.set kp (.cells cs)) fun tS=>K te tS (fs++[zW md kp])):=fun v cs hv =>
     M3 (R:=fun v cs=>FD md v cs (iI v fun v=>jH te o.dst v fun te=>dW cs fun cs=>dI (tS.set kp (.cells cs)) fun tS=>K te tS (fs++[zW md kp]))) h hv
    have fin:∀ v cs,s.holds v cs→Dr P ty aI call yf B ops Q md qz (k+1) (lY te o.dst v) (tS.set kp (.cells cs)) (fs++[zW md kp]):=fun v cs hv=>by
     have h1:=iX (gX v (K:=fun v=>jH te o.dst v fun te=>dW cs fun cs=>dI (tS.set kp (.cells cs)) fun tS=>K te tS (fs++[zW md kp])) (Gv (all v cs hv)).2)
     exact hK _ _ _ (dN _ (K:=fun tS=>K _ tS (fs++[zW md kp])) (cU cs (K:=fun cs=>dI (tS.set kp (.cells cs)) fun tS=>K _ tS (fs++[zW md kp])) h1))
    rcases RH s5 with rfl | rfl | rfl
    ·obtain⟨f,args,argTypes,fs1,cs1,xs,c1,c2,c3,c4,c5,c6,c7⟩:=Mo (tt:=tt) hc
     refine nF ho hw qE (Ji c1 hh c2 c3 c4 c5 c6 c7 hsp) ?_
     rintro v cL cN ft ⟨wm,hv,rfl,rfl,-⟩
     exact fin v wm hv
    ·cases hc
    ·obtain⟨f,args,argTypes,fs1,cs1,xs,off,rest,c1,c2,c3,c4,c5,c6,c7,rfl⟩:=Mp (tt:=tt) hc
     obtain⟨rfl,rfl⟩:=qE
     refine zP ho hw hn (Hh (tt:=tt) c1 hh c2 c3 c4 c5 c6 c7 hsp fun v cs hv=>(Gv (all v cs hv)).1 rfl) ?_
     rintro v cL cN ft ⟨wm,hv,rfl,rfl,rfl⟩
     exact fin v wm hv
   ·exact h.elim
  ·exact h.elim
theorem F6 {Q:List TV→List TB→Prop} {md n0 k:Nat} {qz E2:List TB} {BB:List TV} (s5:md≤2) (ho:ops[k]? = some o) (hw:er ops BB o=some true) (qE:S7 ty md o BB E2 te tS) {K:KO} (hK:∀ te tS fs,K te tS fs→Dr P ty aI call yf B ops Q md qz (k+1) te tS fs)
  (hn:Du tS (Lu md n0 k tS)=true) {v:TV} (hb:Nb o) (hp:bL P ty tt te tS o=some (v,True)) (h:jH te o.dst v fun te=>K te tS (fs++[gv])):Dr P ty aI call yf B ops Q md qz k BB E2 fs:=by
 have h1:=hK _ _ _ (iX (K:=fun te=>K te tS (fs++[gv])) h)
 rcases RH s5 with rfl | rfl | rfl
 ·skip
  refine nF ho hw qE (sH (vS hb hp) trivial false) ?_
  rintro v' cL cN ft ⟨rfl,rfl,rfl,-⟩
  exact h1
 ·obtain⟨rfl,rfl⟩:=qE
  exact fun e=>J3 ho hw (e▸hp) trivial (h1 e)
 ·skip
  obtain⟨rfl,rfl⟩:=qE
  refine zP ho hw hn (sH (vS hb hp) trivial true) ?_
  rintro v' cL cN ft ⟨rfl,rfl,rfl,rfl⟩
  rw[Zf hb]
  exact h1
theorem Pb (hT:qN T aI call) (hI:x4 call T inl) {Q:List TV→List TB→Prop} {md n0 k:Nat} {qz E2:List TB} {BB:List TV} (s5:md≤2) (ho:ops[k]? = some o) (hw:er ops BB o=some true) (qE:S7 ty md o BB E2 te tS) {K:KO} (hK:∀ te tS fs,K te tS fs→Dr P ty aI call yf B ops Q md qz (k+1) te tS fs)
  (h:SH P ty tt T inl md n0 k o te tS fs K):Dr P ty aI call yf B ops Q md qz k BB E2 fs:=by
 unfold SH at h
 split at h
 ·exact h.elim
 ·rename_i hn
  split at h
  ·exact UX hT hI s5 ho hw qE hK hn h
  ·split at h
   ·rename_i v cL cN f c hm
    obtain⟨hc,h⟩:=h
    have h1:=iX (cU cL (K:=fun te=>jH te o.dst v fun te=>dI cN fun tS=>K te tS (fs++[f])) (gX v (K:=fun v=>dW cL fun te=>jH te o.dst v fun te=>dI cN fun tS=>K te tS (fs++[f])) h))
    have h1:=hK _ _ _ (dN cN (K:=fun tS=>K _ tS (fs++[f])) h1)
    unfold VT at hm
    split at hm
    ·rename_i v2 g c2 hr
     cases hm
     rcases RH s5 with rfl | rfl | rfl
     ·refine nF ho hw qE (Bl hr hc false) ?_
      rintro v' te2 U6 ft ⟨rfl,rfl,rfl,rfl⟩
      exact h1
     ·obtain⟨rfl,rfl⟩:=qE
      exact fun e=>PS ho hw (e▸hr) hc (h1 e)
     ·obtain⟨rfl,rfl⟩:=qE
      refine zP ho hw hn (Bl hr hc true) ?_
      rintro v' te2 U6 ft ⟨rfl,rfl,rfl,rfl⟩
      exact h1
    ·split at hm
     ·cases hm
     rename_i h91
     split at hm
     ·rename_i g U6 hs
      cases hm
      rcases RH s5 with rfl | rfl | rfl
      ·refine nF ho hw qE (Bj hs false) ?_
       rintro v' te2 U6 ft ⟨rfl,rfl,rfl,rfl⟩
       exact h1
      ·exact absurd rfl h91
      ·obtain⟨rfl,rfl⟩:=qE
       refine zP ho hw hn (Bj hs true) ?_
       rintro v' te2 U6 ft ⟨rfl,rfl,rfl,rfl⟩
       exact h1
     ·split at hm
      ·rename_i h90
       subst h90
       simp only[ah,ax] at hm
       obtain⟨⟨v2,te2,U6,c2⟩,hs,rfl,rfl,rfl,rfl,rfl⟩:=hm
       refine nF ho hw qE (Jj hs hc) ?_
       rintro v' te3 tS3 ft ⟨rfl,rfl,rfl⟩
       exact h1
      ·cases hm
   split at h
   ·rename_i v cN c hm
    have h0:md=0:=by
     unfold mapM at hm
     split at hm
     ·rfl
     ·cases hm
    subst h0
    refine nF ho hw qE (Rn hm h.1) ?_
    rintro v' cL U6 ft ⟨rfl,rfl,rfl⟩
    have h1:=iX (gX v' (K:=fun v=>jH cL o.dst v fun te=>dI U6 fun tS=>K te tS (fs++[⟨none,true⟩])) h.2)
    exact hK _ _ _ (dN U6 (K:=fun tS=>K _ tS (fs++[⟨none,true⟩])) h1)
   split at h
   ·rename_i v c ha
    exact F6 s5 ho hw qE hK hn (MX ha) (Jm (tt:=tt) ha h.1) h.2
   ·split at h
    ·rename_i b _ hb
     exact F6 s5 ho hw qE hK hn (UT hb) (Rt (tt:=tt) hb) h
    ·rename_i b c _ _ hb
     obtain⟨hc,h⟩:=h
     have h1:=hK _ _ _ (iX (K:=fun te=>K te tS (fs++[gv])) h)
     rcases RH s5 with rfl | rfl | rfl
     ·refine nF ho hw qE (Gx (o6 (P:=P) (aI:=aI) (call:=call) (yf:=yf) (ι:=ej) (S:=[]) hb hc).1 (fun hE aB=>(o6 hb hc).2 hE aB) false) ?_
      rintro v' cL cN ft ⟨rfl,rfl,rfl,-⟩
      exact h1
     ·obtain⟨rfl,rfl⟩:=qE
      exact fun e=>X9 ho hw (o6 (P:=P) (aI:=aI) (call:=call) (yf:=yf) (ι:=ej) (S:=[]) hb hc).1 (fun hE aB=>(o6 hb hc).2 hE aB) (h1 e)
     ·obtain⟨rfl,rfl⟩:=qE
      refine zP ho hw hn (Gx (o6 (P:=P) (aI:=aI) (call:=call) (yf:=yf) (ι:=ej) (S:=[]) hb hc).1 (fun hE aB=>(o6 hb hc).2 hE aB) true) ?_
      rintro v' cL cN ft ⟨rfl,rfl,rfl,rfl⟩
      exact h1
    ·have key:md≠1→∀ q:TR,stepT P ty tt te tS o (Lu md n0 k tS)=some q→q.c→K (lY q.te o.dst q.v) q.tS (fs++[⟨some q.DC,mZ o⟩])→Dr P ty aI call yf B ops Q md qz k BB E2 fs:=by
      intro hm q hq hc hk
      have h1:=hK _ _ _ hk
      rcases RH s5 with rfl | rfl | rfl
      ·skip
       refine nF ho hw qE (sH hq hc false) ?_
       rintro v' cL cN ft ⟨rfl,rfl,rfl,-⟩
       exact h1
      ·exact(hm rfl).elim
      ·skip
       obtain⟨rfl,rfl⟩:=qE
       refine zP ho hw hn (sH hq hc true) ?_
       rintro v' cL cN ft ⟨rfl,rfl,rfl,rfl⟩
       exact h1
     split at h
     ·split at h
      ·rename_i q hq
       have fin:∀ {R:Prop},q.2→K (lY te o.dst q.1) tS (fs++[gv])→Dr P ty aI call yf B ops Q 1 qz k BB E2 fs:=fun {_} hc hk=>by
        obtain⟨h8,h9⟩:=qE
        subst h8 h9
        exact fun e=>J3 ho hw (e▸(show bL P ty tt BB E2 o=some (q.1,q.2) from hq)) hc (hK _ _ _ hk e)
       split at h
       ·exact fin (R:=True) h.1 (iX (K:=fun te=>K te tS (fs++[gv])) (gX q.1 (K:=fun v=>jH te o.dst v fun te=>K te tS (fs++[gv])) h.2))
       ·rename_i nA
        exact fin (R:=True) (Gf nA hq) (iX (K:=fun te=>K te tS (fs++[gv])) (gX q.1 (K:=fun v=>jH te o.dst v fun te=>K te tS (fs++[gv])) h))
      ·exact h.elim
     ·rename_i hm
      split at h
      ·rename_i q hq
       split at h
       ·refine key (fun e=>hm e) q hq h.1 ?_
        have h1:=cU q.te (gX q.v (K:=fun v=>dW q.te fun te=>jH te o.dst v fun te=>dI q.tS fun tS=>K te tS (fs++[⟨some q.DC,mZ o⟩])) h.2)
        exact dN q.tS (K:=fun tS=>K _ tS _) (iX h1)
       ·rename_i nA
        refine key (fun e=>hm e) q hq (QV nA hq) ?_
        have h1:=iX (gX q.v (K:=fun v=>jH q.te o.dst v fun te=>dI q.tS fun tS=>K te tS (fs++[⟨some q.DC,mZ o⟩])) h)
        exact dN q.tS (K:=fun tS=>K _ tS _) h1
      ·exact h.elim
theorem FW {n:Int} {K:Nat→Prop}:∀ (c j:Nat),H7 n K c j→∃ i:Nat,n=i∧K i
 | 0,_,h=>h.elim
 | c+1,j,h=>by
  obtain⟨h1,h2⟩:=sr h
  by_cases e:n=(j:Int)
  ·exact⟨j,e,h1 (fM e)⟩
  ·exact FW c (j+1) (h2 (fO e))
theorem Zh {t c:Nat} {n:Int} (h:XM ty te o=some (t,n,c)):te[t]? = some (.val (.int .i64 n)):=by
 unfold XM at h
 split at h
 ·split at h
  ·rename_i h1 h2; cases h; exact h2
  ·cases h
 ·split at h
  ·rename_i h1 h2; cases h; exact h2
  ·cases h
 ·cases h
theorem Pa (hT:qN T aI call) (hI:x4 call T inl) {Q:List TV→List TB→Prop} {md n0 k:Nat} {qz E2:List TB} {BB:List TV} (s5:md≤2) (ho:ops[k]? = some o) (hw:er ops BB o=some true) (qE:S7 ty md o BB E2 te tS) {K:KO} (hK:∀ te tS fs,K te tS fs→Dr P ty aI call yf B ops Q md qz (k+1) te tS fs)
  (h:Lt P ty tt T inl md n0 k o te tS fs K):Dr P ty aI call yf B ops Q md qz k BB E2 fs:=by
 unfold Lt at h
 split at h
 ·rename_i t n c ha
  obtain⟨i,rfl,hi⟩:=FW _ _ h
  have:=nW te t _ hi
  rw[nI (Zh ha)] at this
  exact Pb hT hI s5 ho hw qE hK this
 ·exact Pb hT hI s5 ho hw qE hK h
theorem Oo (hT:qN T aI call) (hI:x4 call T inl) {Q:List TV→List TB→Prop} {md n0 k:Nat} {qz:List TB} (s5:md≤2) (ho:ops[k]? = some o) (hw:er ops te o=some true) {K:KO} (hK:∀ te tS fs,K te tS fs→Dr P ty aI call yf B ops Q md qz (k+1) te tS fs)
  (h:Z6 P ty tt T inl md n0 k o te tS fs K):Dr P ty aI call yf B ops Q md qz k te tS fs:=by
 unfold Z6 at h
 split at h
 ·split at h
  ·rename_i mh jh hp
   exact Pa hT hI s5 ho hw hp hK (dN jh (K:=fun tS=>Lt P ty tt T inl 0 n0 k o mh tS fs K) (cU mh (K:=fun te=>dI jh fun tS=>Lt P ty tt T inl 0 n0 k o te tS fs K) h))
  ·exact h.elim
 ·rename_i hno
  refine Pa hT hI s5 ho hw ?_ hK h
  rcases RH s5 with rfl | rfl | rfl
  ·show HN ty te tS o=some (te,tS)
   unfold HN
   split
   ·rename_i h2; exact(hno rfl h2).elim
   ·rfl
  ·exact⟨rfl,rfl⟩
  ·exact⟨rfl,rfl⟩
theorem Wb {b:Bool} (h:gdT ops te o = .no b):er ops te o=some b:=by
 unfold gdT at h
 unfold er
 split at h
 ·cases h; rename_i e; rw[e]
 ·rename_i e
  rw[e]
  dsimp only
  split at h
  ·rename_i e1
   rw[e1]
   dsimp only
   split at h
   ·cases h
   ·cases h
   ·cases h
    rename_i v hv e2
    rw[e2]
    split<;>simp_all
   ·cases h
  ·cases h; rename_i e1; rw[e1]
theorem Y4 {d:Tmp} {b want:Bool} (h:gdT ops te o = .ask d b want):te[d]? = some (.val (.bool b))∧er ops te o=some (match want with | true=>b | false => !b):=by
 unfold gdT at h
 unfold er
 split at h
 ·cases h
 ·rename_i e
  rw[e]
  dsimp only
  split at h
  ·rename_i e1
   rw[e1]
   dsimp only
   split at h
   ·cases h; rename_i e2; rw[e2]; cases want<;>exact⟨rfl,rfl⟩
   ·cases h
   ·cases h
   ·cases h
  ·cases h
theorem zY (hT:qN T aI call) (hI:x4 call T inl) {Q:List TV→List TB→Prop} {md n0:Nat} {qz:List TB} (s5:md≤2) {K:KO} (hK:∀ te tS fs,K te tS fs→Dr P ty aI call yf B ops Q md qz ops.size te tS fs) :
  ∀ (r:List Oper) (k:Nat) (te:List TV) (tS:List TB) (fs:List dh),ops.toList.drop k=r→nS P ty tt T inl md n0 ops r k te tS fs K→Dr P ty aI call yf B ops Q md qz k te tS fs
 | [],k,te,tS,fs,hr,h=>by
  have hk:ops.size≤k:=by
   have:=List.drop_eq_nil_iff.1 hr
   simpa using this
  have h1:=hK te tS fs h
  rcases RH s5 with rfl | rfl | rfl
  ·intro ι env S hR hB; have:=h1 ι env S hR hB; rw[ja (by simp)] at this; rw[ja (by simpa using hk)]; exact this
  ·intro e ι env S hR; have:=h1 e ι env S hR; rw[ja (by simp)] at this; rw[ja (by simpa using hk)]; exact this
  ·skip
   intro ι w env S n0 hR hB hw hn
   have:=h1 ι w env S n0 hR hB hw (fun j hj oJ=>by omega)
   rw[ja (by simp)] at this
   rw[ja (by simpa using hk)]
   obtain⟨aC,S',zB,ι',w',cL,cN,ft,e1,e2,e3,e4,e5,e6,e7,e8,e9⟩:=this
   exact⟨aC,S',zB,ι',w',cL,cN,ft,e1,e2,fun j _=>e3 j fun i hi EU=>by omega,e4,e5,e6,e7,⟨e8.1,fun j _ hn=>e8.2 j (fun i hi EU=>by omega) hn⟩,e9⟩
 | o::r,k,te,tS,fs,hr,h=>by
  obtain⟨ho,yN⟩:=G8 hr
  have ih:∀ te tS fs,nS P ty tt T inl md n0 ops r (k+1) te tS fs K→Dr P ty aI call yf B ops Q md qz (k+1) te tS fs:=fun te tS fs=>zY hT hI s5 hK r (k+1) te tS fs yN.symm
  simp only[nS] at h
  split at h
  ·rename_i hg
   exact Oo hT hI s5 ho (Wb hg) ih h
  ·rename_i hg
   exact Ef s5 ho (Wb hg) ih h
  ·rename_i d b want hg
   obtain⟨h1,h2⟩:=Y4 hg
   split at h
   ·obtain⟨k1,k2⟩:=sr h
    cases b with
    | true=>have:=nW te d _ (k1 rfl); rw[nI h1] at this; exact Oo hT hI s5 ho h2 ih this
    | false=>have:=nW te d _ (k2 rfl); rw[nI h1] at this; exact Ef s5 ho h2 ih this
   ·obtain⟨k1,k2⟩:=sr h
    cases b with
    | true=>have:=nW te d _ (k1 rfl); rw[nI h1] at this; exact Ef s5 ho h2 ih this
    | false=>have:=nW te d _ (k2 rfl); rw[nI h1] at this; exact Oo hT hI s5 ho h2 ih this
  ·exact h.elim
end Go.Tv
end
section
namespace Go.Tv
open Go Go.Di Go.Proofs
variable {P:Program} {ty:gF} {tt:TypeId→Option TT} {T:gd} {ι ι' w:lW} {S S':av} {te mh:List TV} {env:List DV} {tS jh:List TB} {aI:bP} {call:bM} {yf:eW} {o:Oper} {aB nT:Nat} {B:List Nat} {r:TR} {ops:Array Oper} {fn:FuncId} {iA:Bool} {fs:List dh}
def LA.St:LA→Type
 | .ex α k=>(x:α)×(k x).St
 | .st _=>Unit
 | .un _=>Empty
 | .dep _=>Empty
 | .pe _ _=>Empty
def LA.bd:(la:LA)→la.St→Bd
 | .ex _ k,⟨x,s⟩=>(k x).bd s
 | .st b,_=>b
theorem vq {K:Bd→Prop}:∀ {la:LA},la.some K→∃ s:la.St,K (la.bd s)
 | .ex _ k,⟨x,h⟩=>by
  obtain⟨s,h1⟩:=vq (la:=k x) h
  exact⟨⟨x,s⟩,h1⟩
 | .st b,h=>⟨(),h⟩
 | .un _,h=>h.elim
 | .dep _,h=>h.elim
 | .pe _ _,h=>h.elim
theorem JI {K:Bd→Prop}:∀ {la:LA},la.all K→∀ s:la.St,K (la.bd s)
 | .ex _ _,h,⟨x,s⟩=>JI (h x) s
 | .st _,h,_=>h
theorem Rj {b:Bd} {keep:Nat} {K:Prop} (h:PA B b keep te tS K):Fits B (mb b.sl keep 0 te) (uY b tS) te tS∧dx b.cB∧K:=by
 obtain⟨h0,h⟩:=mq h
 simp only[aG] at h0
 obtain⟨l1,e1,k1,h⟩:=kD h
 obtain⟨l2,e2,k2,h⟩:=kD h
 obtain⟨h3,h4⟩:=jT h
 exact⟨⟨vJ e1 k1,jb e2 k2,h0.1,fun k hk=>bh.1 h0.2 k hk⟩,h3,h4⟩
theorem K1 {b:Bd} {K:Prop} (h:JW B mh jh b te tS K):Fits B mh jh te tS∧dx b.cB∧K:=by
 obtain⟨h0,h⟩:=mq h
 simp only[aG] at h0
 obtain⟨l1,e1,k1,h⟩:=kD h
 obtain⟨l2,e2,k2,h⟩:=kD h
 obtain⟨h3,h4⟩:=jT h
 exact⟨⟨vp e1 k1,Uv e2 k2,h0.1,fun k hk=>bh.1 h0.2 k hk⟩,h3,h4⟩
theorem Of {N:Nat} {c:Code} {Q:DX→List TV→List TB→Prop} {K:List TV→List TB→Prop} {f:List TV→List TB→(List TV→List TB→Prop)→Prop} (hf:∀ te tS K',f te tS K'→WT P ty aI call yf B LL fn iA c te tS fun e te tS=>match e with | .normal=>K' te tS | e=>Q e te tS) (hK:∀ te tS,K te tS→WI P ty aI call yf B LL fn iA N c te tS Q) :
  ∀ (n:Nat) (te:List TV) (tS:List TB),unK f K n te tS→WI P ty aI call yf B LL fn iA (N+n) c te tS Q
 | 0,te,tS,h=>hK te tS h
 | n+1,te,tS,h=>Tk ((hf te tS _ h).mono fun e te tS hq=>by
   cases e with
   | normal=>exact Of hf hK n te tS hq
   | exit id=>exact hq
   | ret=>exact hq)
theorem Tl {n m:Nat} {c:Code} {Q:DX→List TV→List TB→Prop} (hn:n≤m) (h:WI P ty aI call yf B LL fn iA n c te tS Q):WI P ty aI call yf B LL fn iA m c te tS Q:=by
 intro ι env S hR hB
 obtain⟨e,aC,S',ι',cL,cN,h1,h2⟩:=h ι env S hR hB
 exact⟨e,aC,S',ι',cL,cN,xw hn h1,h2⟩
theorem F0 {x:Operand} {v:Bool} {K:List TV→Prop} (hx:gE te x=some (.val (.bool v))) (h:Oh x te v K):K te:=by
 cases x with
 | tmp t =>
  simp only[gE,az] at hx
  have:=nW te t _ (h:BL te t _ K)
  rwa [nI] at this
  rw[aL] at hx
  cases e:te[t]? with
  | none=>rw[e] at hx; cases hx
  | some a=>rw[e] at hx; exact congrArg some hx
 | _=>exact h
variable {inl:Inl}
theorem LH (hT:qN T aI call) (hI:x4 call T inl) {id:Nat} {draw:Bool} {J:List (Nat×LA)} {i lv:Nat} {Q:DX→List TV→List TB→Prop} (h:xE P ty tt T inl B J (.region id ops draw) i lv te tS Q):WT P ty aI call yf B LL fn iA (.region id ops draw) te tS Q:=by
 simp only[xE] at h
 split at h
 ·split at h
  ·rename_i hn
   obtain⟨hd,h⟩:=mq h
   refine PO hd hn ?_
   exact zY (md:=2) (n0:=tS.length) (qz:=tS) (Q:=fun te tS=>Q .normal te (lX tS)) hT hI (by omega) (fun te tS fs hk=>by
    obtain⟨hm,hk⟩:=mq hk
    exact Yg (ai _) hm (dN _ (K:=fun tS=>Q .normal te tS) hk)) ops.toList 0 te _ [] rfl (dN _ (K:=fun qz=>nS P ty tt T inl 2 tS.length ops ops.toList 0 te qz [] fun te tS fs=>ay (qL (Region.before ops) fs) (dI (lX tS) fun tS=>Q .normal te tS) False) h)
  ·rename_i hn
   obtain⟨hd,h⟩:=mq h
   refine PK hd hn ?_
   exact zY (B:=B) (md:=1) (n0:=0) (qz:=tS) (Q:=fun te tS=>Q .normal te tS) hT hI (by omega) (fun te tS fs hk _=>OY (ai _) hk) ops.toList 0 te _ [] rfl h rfl
 ·refine PM ?_
  exact zY (md:=0) (n0:=0) (qz:=tS) (Q:=fun te tS=>Q .normal te (lX tS)) hT hI (by omega) (fun te tS fs hk=>Ya (ai _) (dN _ (K:=fun tS=>Q .normal te tS) hk)) ops.toList 0 te _ [] rfl h
theorem Mh {c:Code} (h:Ig P c=some ops):tc P ops=false∧∃ id,c = .region id ops true:=by
 unfold Ig at h
 split at h
 ·split at h
  ·cases h
  ·rename_i hl; cases h; exact⟨Bool.eq_false_iff.2 hl,_,rfl⟩
 ·cases h
theorem A7 {env:List DV} {dst:Option Tmp} {v:DV} {i:Nat} (h:dst≠some i):(jj env dst v)[i]? = env[i]? := by
 cases dst with
 | none=>rfl
 | some d =>
  simp only[jj]
  rw[aP,if_neg (fun e=>h (by rw[e]))]
theorem xe {i:Nat}:∀ {l:List Oper} {env aC:List DV},oy P ty aI call yf ops S l env=some aC→(∀ o∈l,o.dst≠some i)→aC[i]? = env[i]?
 | [],env,aC,h,_=>by cases h; rfl
 | o::l,env,aC,h,hd=>by
  simp only[oy] at h
  split at h
  ·split at h
   ·rw[xe h fun o' kI=>hd o' (List.mem_cons_of_mem _ kI),A7 (hd o (lz ..))]
   ·cases h
  ·rw[xe h fun o' kI=>hd o' (List.mem_cons_of_mem _ kI),A7 (hd o (lz ..))]
theorem YR {u v:TV} {d:DV} (h:LeV u v) (hd:RT ι S v d):RT ι S u d:=by
 obtain⟨_,_,e,h1,-⟩:=ak (Im (h [] [] .nil) (iW hd))
 cases e
 exact h1
theorem uA {sl:List (Nat×TV)} {keep:Nat}:∀ {i:Nat} {te cL:List TV} {env aC:List DV} {l:List Prop},dg ι S te env→dg ι S cL aC→cL.length=te.length→tg sl i cL=some l→dx l→(∀ j,keep.testBit (i+j)=true→aC[j]? = env[j]?)→dg ι S (mb sl keep i te) aC
 | _,[],[],_,_,_,_,h2,_,_,_,_=>by rw[aW h2]; exact cz
 | i,v::te,v'::cL,env,aC,l,h1,h2,hn,hp,hc,hk=>by
  obtain⟨d,m,rfl,a1,a2⟩:=ak h1
  obtain⟨d',m',rfl,b1,b2⟩:=ak h2
  have Js:cL.length=te.length:=by simpa using hn
  have oI:∀ j,keep.testBit (i+1+j)=true→m'[j]? = m[j]? := fun j hj=>by
   have:=hk (j+1) (by rw[← fC,Nat.add_right_comm]; exact hj)
   simpa using this
  simp only[tg] at hp
  simp only[mb]
  split at hp
  ·rename_i p NB
   split at hp
   ·rename_i x y e1 e2
    cases hp
    obtain⟨k1,k2⟩:=kS hc
    exact aY (YR (Il e1 k1) b1) (uA a2 b2 Js e2 k2 oI)
   ·cases hp
  ·refine aY ?_ (uA a2 b2 Js hp hc oI)
   split
   ·rename_i hb
    have:=hk 0 hb
    simp only[List.getElem?_cons_zero,az] at this
    rw[this]; exact a1
   ·simp only[RT]
 | _,[],_::_,_,_,_,_,_,hn,_,_,_=>by simp at hn
 | _,_::_,[],_,_,_,_,_,hn,_,_,_=>by simp at hn
theorem Ao:∀ {l:List Oper} {env aC:List DV},oy P ty aI call yf ops S l env=some aC→aC.length=env.length
 | [],env,aC,h=>by cases h; rfl
 | o::l,env,aC,h=>by
  have hp:∀ (dst:Option Tmp) (v:DV),(jj env dst v).length=env.length:=fun dst v=>by cases dst<;>simp[jj]
  simp only[oy] at h
  split at h
  ·split at h
   ·rw[Ao h,hp]
   ·cases h
  ·rw[Ao h,hp]
theorem PL {id:Nat} {b:Code} {Q:DX→List TV→List TB→Prop} {la:LA} {keep:Nat} (hd:j8 ops (Region.before ops)=true) (hl:tc P ops=false) (hk:Pm keep ops=true)
  (h1:WQ P ty aI call yf ops tS 0 te fun cL=>la.some fun bd=>ask (tg bd.sl 0 cL) (zL bd.cB True))
  (h2:∀ s:la.St,dx (la.bd s).cB→WT P ty aI call yf B LL fn iA b (mb (la.bd s).sl keep 0 te) tS Q):WT P ty aI call yf B LL fn iA (.seq (.region id ops true) b) te tS Q:=by
 intro ι env S hR hB
 obtain⟨aC,cL,k1,k2,k3⟩:=h1 ι env S hR
 rw[lq] at k1
 obtain⟨s,hs⟩:=vq k3
 obtain⟨l,e1,e2,e3⟩:=kD hs
 obtain⟨e3,-⟩:=jT e3
 have Sq:cM ι (mb (la.bd s).sl keep 0 te) tS aC S:=by
  refine⟨uA hR.env k2.env ?_ e1 e2 fun j hj => ?_,k2.cells,k2.own,k2.xH,k2.inj,k2.mp⟩
  ·rw[← ig k2.env,← ig hR.env,Ao k1]
  ·refine xe k1 fun o ho e => ?_
   have:=bh.1 hk o ho
   rw[gL] at hj
   rw[e] at this
   simp only[hj] at this
   cases this
 obtain⟨e,oR,tI,ι'',tM,tN,m1,m2,m3,m4,m5,m6⟩:=h2 s e3 ι aC S Sq hB
 refine⟨e,oR,tI,ι'',tM,tN,?_,m2,m3,m4,m5,m6⟩
 have:cG P ty aI call yf LL fn iA (.region id ops true) env S=some (.normal,aC,S):=by
  simp only[tc,Bool.or_eq_false_iff] at hl; simp only[cG,nX,if_true,hd,hl.2,fD,aD,if_false,k1,Option.map_some]
 rw[cG,this]
 exact m1
theorem nt (hT:qN T aI call) (hI:x4 call T inl) {J:List (Nat×LA)}:∀ (c:Code) (i lv:Nat) (te:List TV) (tS:List TB) (Q:DX→List TV→List TB→Prop),xE P ty tt T inl B J c i lv te tS Q→WT P ty aI call yf B LL fn iA c te tS Q
 | .skip,_,_,_,_,_,h=>S9 h
 | .label _,_,_,_,_,_,h=>PN h
 | .exit _,_,_,_,_,_,h=>Te h
 | .ret,_,_,_,_,_,h=>X8 h
 | .scope c,i,lv,te,tS,Q,h=>PJ (nt hT hI c i lv te tS Q h)
 | .block id c,i,lv,te,tS,Q,h=>by
  refine PR ((nt hT hI c i lv te tS _ h).mono fun e te tS hq => ?_)
  cases e with
  | normal=>exact hq
  | ret=>exact hq
  | exit iT =>
   dsimp only at hq ⊢
   split<;>simp_all
 | .cond x a b,i,lv,te,tS,Q,h=>by
  simp only[xE] at h
  split at h
  ·rename_i t hx
   obtain⟨h1,h2⟩:=sr h
   refine Tf hx (fun e => ?_) (fun e => ?_)
   ·subst e; exact nt hT hI a i lv te tS Q (F0 hx (h1 rfl))
   ·subst e; exact nt hT hI b (i+cnt a) lv te tS Q (F0 hx (h2 rfl))
  ·exact h.elim
 | .seq a b,i,lv,te,tS,Q,h=>by
  simp only[xE] at h
  split at h
  ·rename_i la _
   split at h
   ·rename_i ops hq
    obtain⟨h1,h2⟩:=h
    obtain⟨hl,id,rfl⟩:=Mh hq
    obtain⟨h0,h1⟩:=mq h1
    simp only[aG] at h0
    refine PL (la:=la) h0.1 hl h0.2 ?_ fun s hg=>nt hT hI b _ lv _ _ Q (cU _ (kQ (JI h2 s) hg))
    exact zY (B:=B) (md:=1) (n0:=0) (qz:=tS) (Q:=fun cL _=>la.some fun bd=>ask (tg bd.sl 0 cL) (zL bd.cB True)) hT hI (by omega) (fun cL cN fs hk _=>OY (ai _) hk) ops.toList 0 te _ [] rfl h1 rfl
   obtain⟨h1,h2⟩:=h
   refine Tc (fun s:la.St=>(mb (la.bd s).sl ((lv ||| ng b) &&& (2 ^ 400-1-(defs a))) 0 te,uY (la.bd s) tS)) (fun s=>dx (la.bd s).cB) ((nt hT hI a (i+1) (lv ||| ng b) te tS _ h1).mono fun e cL cN hq => ?_) fun s hg=>nt hT hI b (i+1+cnt a) lv _ _ Q (dN _ (cU _ (kQ (JI h2 s) hg)))
   cases e with
   | normal =>
    obtain⟨s,hs⟩:=vq hq
    obtain⟨k1,k2,-⟩:=K1 hs
    exact⟨s,k1,k2⟩
   | exit id=>exact hq
   | ret=>exact hq
  ·refine OX ((nt hT hI a (i+1) (lv ||| ng b) te tS _ h).mono fun e te tS hq => ?_)
   cases e with
   | normal=>exact nt hT hI b _ _ te tS Q hq
   | exit id=>exact hq
   | ret=>exact hq
 | .loop c,i,lv,te,tS,Q,h=>by
  simp only[xE] at h
  split at h
  ·rename_i la _
   have hF:∀ te tS (K':List TV→List TB→Prop),xE P ty tt T inl B J c (i+1) (lv ||| ng c) te tS (fun e te tS=>match e with
    | .normal=>K' te tS
    | .exit id=>Q (.exit id) te tS
    | .ret=>Q .ret te tS)→WT P ty aI call yf B LL fn iA c te tS fun e te tS=>match e with | .normal=>K' te tS | e=>Q e te tS:=fun te tS K' hf=>(nt hT hI c _ _ te tS _ hf).mono fun e te tS hq=>by
     cases e with
     | normal=>exact hq
     | exit id=>exact hq
     | ret=>exact hq
   refine LG (n:=1000000+min la.VS 1000) (by unfold LL; omega) (Of hF (fun te tS h => ?_) _ te tS h)
   generalize la.inner.at te tS=la at h
   split at h
   ·exact Tl (by omega) (Of (N:=0) hF (fun _ _ h=>h.elim) _ te tS h)
   ·obtain⟨h1,h2⟩:=h
    obtain⟨s0,h1⟩:=vq h1
    obtain⟨k1,k2,k3⟩:=Rj h1
    refine Tn (fun s:la.St=>(mb (la.bd s).sl ((lv ||| ng c) &&& (2 ^ 400-1-(defs c))) 0 te,uY (la.bd s) tS)) (fun s=>dx (la.bd s).cB) (fun s=>(la.bd s).m) s0 k1 k2 k3 fun s hg=>(nt hT hI c (i+1) (lv ||| ng c) _ _ _ (dN _ (cU _ (kQ (JI h2 s) hg)))).mono fun e cL cN hq => ?_
    cases e with
    | normal =>
     obtain⟨s',hs⟩:=vq hq
     obtain⟨k1,k2,k3⟩:=K1 hs
     exact⟨s',k1,k2,k3⟩
    | exit id=>exact hq
    | ret=>exact hq
  ·exact h.elim
 | .region id ops draw,i,lv,te,tS,Q,h=>LH hT hI h
 | .rangeFunc ..,_,_,_,_,_,h=>(by simp only[xE] at h)
 | .goto _,_,_,_,_,_,h=>(by simp only[xE] at h)
 | .refuse _,_,_,_,_,_,h=>(by simp only[xE] at h)
theorem yU {K K':TV→List TV→List Prop→Prop} (hK:∀ v cs f,K v cs f→K' v cs f):∀ {s:s7},s.some K→s.some K'
 | .ex _ k,⟨x,h⟩=>⟨x,yU (s:=k x) hK h⟩
 | .res _ _ _,h=>hK _ _ _ h
theorem OO {F:List TV→List TB→Prop} {E:DX→List TV→List TB→Prop} (h1:∀ te tS,F te tS→E .normal te tS∧E .ret te tS):∀ {e:DX} {te:List TV} {tS:List TB},N7 F e te tS→E e te tS
 | .normal,_,_,h=>(h1 _ _ h).1
 | .ret,_,_,h=>(h1 _ _ h).2
 | .exit _,_,_,h=>h.elim
theorem abJ {rs:List ResultVar} {lU:List (Option TT)} {s:s7} (h:XG ty rs lU s te tS):XT ty rs lU (fun v=>s.tV v) .normal te tS∧XT ty rs lU (fun v=>s.tV v) .ret te tS:=by
 unfold XG at h
 split at h
 ·rename_i vs hv
  have h:=cU (zN tS vs) (K:=fun vs=>ay (vs.all gf&&(refs (kG (bN lU vs))).isEmpty) (s.some fun v _ facts=>ask (WW (kG (bN lU vs)) v) (dx facts)) False) h
  obtain⟨h0,h⟩:=mq h
  simp only[aG,List.isEmpty_iff] at h0
  have:∃ vs,zF ty te tS rs=some vs∧(zN tS vs).all gf=true∧refs (kG (bN lU (zN tS vs)))=[]∧s.tV (kG (bN lU (zN tS vs))):=by
   refine⟨vs,hv,h0.1,h0.2,yU (fun v cs f hk => ?_) h⟩
   obtain⟨l,h1,h2,h3⟩:=kD hk
   exact⟨DY h1 h2,h3⟩
  exact⟨⟨trivial,this⟩,trivial,this⟩
 ·exact h.elim
theorem abK {rs:List ResultVar} {lU oK:List (Option TT)} {s:s7} (h:XH ty rs lU oK s te tS):Od ty rs lU oK (fun v cs=>s.holds v cs) .normal te tS∧Od ty rs lU oK (fun v cs=>s.holds v cs) .ret te tS:=by
 unfold XH at h
 split at h
 ·rename_i vs ts l hv
  obtain⟨h0,h⟩:=mq h
  simp only[aG,List.isEmpty_iff] at h0
  have:s.holds (kG (bN lU vs)) (bN oK ts):=by
   refine yU (fun v cs f hk => ?_) h
   obtain⟨l,h1,h2,hk⟩:=kD hk
   obtain⟨l',h3,h4,h5⟩:=kD hk
   exact⟨DY h1 h2,tZ h3 h4,h5⟩
  exact⟨⟨trivial,vs,ts,hv,h0.1.1,h0.1.2,rfl,h0.2.1,h0.2.2,this⟩,trivial,vs,ts,hv,h0.1.1,h0.1.2,rfl,h0.2.1,h0.2.2,this⟩
 ·exact h.elim
theorem abI {rs:List ResultVar} {oK:List (Option TT)} {s:s7} (h:XF ty rs oK s te tS):XS ty rs oK (fun cs=>s.wQ cs) .normal te tS∧XS ty rs oK (fun cs=>s.wQ cs) .ret te tS:=by
 unfold XF at h
 split at h
 ·rename_i ts l hv
  obtain⟨h0,h⟩:=mq h
  simp only[aG,List.isEmpty_iff] at h0
  have:s.wQ (bN oK ts):=by
   refine yU (fun v cs f hk => ?_) h
   obtain⟨l',h3,h4,h5⟩:=kD hk
   exact⟨tZ h3 h4,h5⟩
  exact⟨⟨trivial,ts,hv,rfl,h0.1,h0.2,this⟩,trivial,ts,hv,rfl,h0.1,h0.2,this⟩
 ·exact h.elim
theorem YN:∀ {vs:List TV} {ds:List DV},dg ι S vs ds→RT ι S (kG vs) (oneOf ds)
 | [],ds,h=>by rw[aW h]; simp only[kG,oneOf,RT]; exact cz
 | [v],ds,h=>by
  obtain⟨d,m',rfl,h1,h2⟩:=ak h
  rw[aW h2]; exact h1
 | v::u::l,ds,h=>by
  obtain⟨d,m',rfl,h1,h2⟩:=ak h
  obtain⟨d',m'',rfl,h3,h4⟩:=ak h2
  simp only[kG,oneOf,RT]
  exact aY h1 (aY h3 h4)
def XOK (P:Program) (T:gd):Prop:=∀ g fn j,T.X g=some (fn,j)→P.funcs[g]? = some fn∧fn.body.isSome=true
def Lev (P:Program) (ty:gF) (T:gd):Nat→bP→bM→Prop
 | 0,aI,call=>qN T aI call
 | d+1,aI,call=>qN T aI call∧∃ Xj OR yf',(∀ g fn,P.funcs[g]? = some fn→∀ a S,call g a S=tq P ty Xj OR yf' LL g fn a S)∧Lev P ty T d Xj OR
theorem za {d:Nat} (h:Lev P ty T d aI call):qN T aI call:=by
 cases d with
 | zero=>exact h
 | succ d=>exact h.1
theorem DU (hX:XOK P T):∀ (d:Nat) {aI:bP} {call:bM},Lev P ty T d aI call→x4 call T (NV P ty tt T d)
 | 0,_,_,_=>fun _ _ _ _ _ _ _ h=>h.elim
 | d+1,aI,call,hL=>by
  obtain⟨-,Xj,OR,yf',hb,Ss⟩:=hL
  intro g fn j A tS K hx hi ι cR S hR
  obtain⟨hf,hs⟩:=hX g fn j hx
  have hw:=nt (fn:=g) (iA:=false) (yf:=yf') (za Ss) (DU hX d Ss) _ _ _ _ _ _ (cU _ hi)
  have hlen:=ig hR.env
  have lR:cM ι (Ls fn.ntmps A) tS (cR++List.replicate (fn.ntmps-cR.length) bz) S :=
   ⟨fu hR.env (by rw[hlen]; exact vn _ _),hR.cells,hR.own,hR.xH,hR.inj,hR.mp⟩
  obtain⟨e,aC,S',ι',cL,cN,h1,h2,h3,h4,h5,h6⟩:=hw ι _ S lR YU
  have key:XE ty fn.results.toList K cL cN→(e = .normal∨e = .ret)→∃ d S' ι' v cN,call g cR S=some (d,S')∧cM ι' [v] cN [d] S'∧ow (fK 0 tS) cN∧Fr (fK 0 tS) ι S ι' S'∧Nn S.length S S'∧K v cN:=by
   intro hk he
   unfold XE at hk
   split at hk
   ·rename_i vs hv
    obtain⟨ds,k1,k2⟩:=vo h2 hv
    refine⟨oneOf ds,S',ι',kG vs,cN,?_,⟨iW (YN k2),h2.cells,h2.own,h2.xH,h2.inj,h2.mp⟩,h3,h4,h5,hk⟩
    rw[hb g fn hf]
    unfold xX at h1
    simp only[tq]
    cases hc:fn.body with
    | none=>rw[hc] at hs; cases hs
    | some c =>
     rw[hc] at h1
     simp only[Option.getD_some] at h1
     simp only[h1]
     rcases he with rfl | rfl<;>simp only[k1,Option.map_some]
   ·exact hk.elim
  cases e with
  | normal=>exact key h6 (.inl rfl)
  | ret=>exact key h6 (.inr rfl)
  | exit id=>exact h6.elim
def vcI (T:gd) (d:Nat) (f:Func) (lU:List (Option TT)) (J:List (Nat×LA)) (a:List TV) (s:s7):Prop:=dW (Ls f.ntmps a) fun te=>xE Tp Ty Zp T (NV Tp Ty Zp T d) [] J (xX f) 0 (yY f.results.toList) te [] (N7 (XG Ty f.results.toList lU s))
def aaa (T:gd) (d:Nat) (f:Func) (lU oK:List (Option TT)) (J:List (Nat×LA)) (a cs:List TV) (s:s7):Prop:=dW (Ls f.ntmps a) fun te=>xE Tp Ty Zp T (NV Tp Ty Zp T d) [0] J (xX f) 0 (yY f.results.toList) te [.cells cs] (N7 (XH Ty f.results.toList lU oK s))
def vcN (T:gd) (d:Nat) (f:Func) (oK:List (Option TT)) (J:List (Nat×LA)) (a:List TV) (s:s7):Prop:=dW (Ls f.ntmps a) fun te=>xE Tp Ty Zp T (NV Tp Ty Zp T d) [] J (xX f) 0 (yY f.results.toList) te [] (N7 (XF Ty f.results.toList oK s))
def ji (bF:bP) (k:Nat) (T:gd):Prop:=XOK Tp T∧∀ n,qN T (Fh bF (n+k)) (Ae bF (n+k))
def gd.cA (T:gd) (f:FuncId) (S:List TV→Sp):gd:={ T with I:=fun g a=>if g=f then S a else T.I g a }
def gd.sZ (T:gd) (f:FuncId) (S:List TV→List TV→Sp):gd:={ T with C:=fun g a c=>if g=f then S a c else T.C g a c }
def gd.S6 (T:gd) (f:FuncId) (S:List TV→Sp):gd:={ T with N:=fun g a=>if g=f then S a else T.N g a }
def gd.LC (T:gd) (f:FuncId) (fn:Func) (j:List (Nat×LA)):gd:={ T with X:=fun g=>if g=f then some (fn,j) else T.X g }
variable {bF:bP} {k:Nat}
theorem eM (h:ji bF k T):ji bF (k+1) T:=⟨h.1,fun n=>by have:=h.2 (n+1); rwa [Nat.add_right_comm,fC] at this⟩
theorem pS (h:ji bF k T):∀ (d n:Nat),Lev Tp Ty T d (Fh bF (n+(k+d))) (Ae bF (n+(k+d)))
 | 0,n=>h.2 n
 | d+1,n=>by
  refine⟨?_,Fh bF (n+(k+d)),Ae bF (n+(k+d)),yfT bF (n+(k+d)),fun g fn hf a S => ?_,pS h d n⟩
  ·have:=h.2 (n+(d+1)); rwa [fC,Nat.add_comm (d+1) k] at this
  ·rw[show n+(k+(d+1))=(n+(k+d))+1 by omega]
   simp only[xW,dG,hf]
   rfl
theorem Fq {f:FuncId} {S:List TV→Sp} (hT:ji bF k T) (h:∀ n a p s,S a=some (p,s)→dx p→qR (Fh bF (n+k)) f a fun v=>s.tV v):ji bF k (T.cA f S):=⟨hT.1,fun n=>⟨fun g a p s hs hp=>by
 simp only[gd.cA] at hs
 split at hs
 ·rename_i e; subst e; exact h n a p s hs hp
 ·exact(hT.2 n).I g a p s hs hp,(hT.2 n).C,(hT.2 n).N⟩⟩
theorem aaY {f:FuncId} {S:List TV→List TV→Sp} (hT:ji bF k T) (h:∀ n a cs p s,S a cs=some (p,s)→dx p→x5 (Ae bF (n+k)) f a cs fun v cs=>s.holds v cs):ji bF k (T.sZ f S):=⟨hT.1,fun n=>⟨(hT.2 n).I,fun g a cs p s hs hp=>by
 simp only[gd.sZ] at hs
 split at hs
 ·rename_i e; subst e; exact h n a cs p s hs hp
 ·exact(hT.2 n).C g a cs p s hs hp,(hT.2 n).N⟩⟩
theorem aaX {f:FuncId} {S:List TV→Sp} (hT:ji bF k T) (h:∀ n a p s,S a=some (p,s)→dx p→zX (Fh bF (n+k)) (Ae bF (n+k)) f a fun cs=>s.wQ cs):ji bF k (T.S6 f S):=⟨hT.1,fun n=>⟨(hT.2 n).I,(hT.2 n).C,fun g a p s hs hp=>by
 simp only[gd.S6] at hs
 split at hs
 ·rename_i e; subst e; exact h n a p s hs hp
 ·exact(hT.2 n).N g a p s hs hp⟩⟩
theorem JE {f:FuncId} {fn:Func} {j:List (Nat×LA)} (hT:ji bF k T) (hf:Tp.funcs[f]? = some fn) (hb:fn.body.isSome=true):ji bF k (T.LC f fn j):=⟨fun g uH j' hx=>by
 simp only[gd.LC] at hx
 split at hx
 ·rename_i e; subst e; cases hx; exact⟨hf,hb⟩
 ·exact hT.1 g uH j' hx,fun n=>⟨(hT.2 n).I,(hT.2 n).C,(hT.2 n).N⟩⟩
def T0:gd where
 I:=fun g a=>match g,a with
  | 12,[]=>some ([],.res (iy true) [] [])
  | _,_=>none
 C:=fun _ _ _=>none
 N:=fun _ _=>none
theorem ee (tk:uS bF):ji bF 0 T0:=by
 refine⟨fun _ _ _ h=>(by cases h),fun n=>⟨fun g a p s hs _ => ?_,fun _ _ _ _ _ hs=>(by cases hs),fun _ _ _ _ hs=>(by cases hs)⟩⟩
 simp only[T0] at hs
 split at hs
 ·cases hs
  intro cR hd
  rw[aW hd]
  refine⟨.val (.bool true),iy true,?_,rfl,by simp only[RT],rfl,rfl,trivial⟩
  simp only[yB,j6,tk.fit,DV.pure,DV.jf,if_true]
 ·cases hs
end Go.Tv
end
