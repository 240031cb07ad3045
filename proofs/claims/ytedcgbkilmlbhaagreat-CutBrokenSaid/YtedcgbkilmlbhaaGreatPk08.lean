import Derived.Test.YtedcgbkilmlbhaaGreatPk07
section
namespace Go.Tv
open Go Go.Di Go.Proofs
variable {P:Program} {ty:eV} {tt:TypeId→Option TT} {T:gN} {ι ι' w:jF} {S S':ak} {te jU:List TV} {env:List DV} {tS gM:List TB} {aD:bn} {call:aW} {yf:dH} {o:Oper} {aA nT:Nat} {B:List Nat} {r:TR} {ops:Array Oper} {L:Nat} {fn:FuncId} {fC:Bool} {fs:List cu}
theorem Pm {md:Nat} (h:md≤2):md=0∨md=1∨md=2:=by omega
theorem OK {α β:Type} {x:Option α} {f:α→β} {q:β×Prop} (h:x.map (fun a=>(f a,True))=some q):q.2:=by
 simp only[Option.map_eq_some_iff] at h
 obtain⟨_,_,rfl⟩:=h
 trivial
theorem EJ {q:TV×Prop} (hc:uX o=false) (h:bg P ty tt te tS o=some q):q.2:=by
 unfold uX at hc
 unfold bg at h
 cases ho:o.op
 all_goals simp only[ho] at hc h
 all_goals try (cases hc; done)
 all_goals repeat' (split at h)
 all_goals first
  | (cases h; done)
  | (cases h; trivial)
  | exact OK h
  | (simp only[Option.map_eq_some_iff] at h; obtain⟨_,_,rfl⟩:=h; trivial)
theorem OG {q:TR} (hc:uX o=false) (h:stepT P ty tt te tS o nT=some q):q.c:=by
 have hp:∀ {q:TR},((bg P ty tt te tS o).map fun r=>(⟨r.1,te,tS,rJ te o,r.2⟩:TR))=some q→q.c:=by
  intro q h
  simp only[Option.map_eq_some_iff] at h
  obtain⟨a,h1,rfl⟩:=h
  exact EJ hc h1
 unfold stepT at h
 split at h
 ·split at h
  ·cases h; trivial
  ·cases h
 ·split at h
  ·split at h
   ·cases h; trivial
   ·cases h
  ·cases h
 ·split at h
  ·split at h
   ·split at h
    ·simp only[Option.map_eq_some_iff] at h
     obtain⟨_,_,rfl⟩:=h
     trivial
    ·cases h
   ·cases h
  ·cases h
 ·rename_i ho
  simp only[uX,ho] at hc
  cases hc
 ·exact hp h
def Nb (o:Oper):Prop:=(∃ op t x y u,o.op = .binOp op t x y u)∨∃ op t x,o.op = .unOp op t x
theorem uj {v:TV} (hb:Nb o) (h:bg P ty tt te tS o=some (v,True)):stepT P ty tt te tS o nT=some ⟨v,te,tS,[],True⟩:=by
 rcases hb with ⟨op,t,x,y,u,ho⟩ | ⟨op,t,x,ho⟩<;>simp only[stepT,ho,h,Option.map_some,rJ]
theorem KR {v:TV} {c:Prop} (h:yt te o=some (v,c)):Nb o:=by
 unfold yt at h
 split at h
 ·rename_i ho; exact .inl ⟨_,_,_,_,_,ho⟩
 ·rename_i ho; exact .inl ⟨_,_,_,_,_,ho⟩
 ·rename_i ho; exact .inl ⟨_,_,_,_,_,ho⟩
 ·rename_i ho; exact .inr ⟨_,_,_,ho⟩
 ·cases h
theorem Sq {b:Bool} (h:Ma P te o=some b):Nb o:=by
 unfold Ma at h
 split at h
 ·rename_i ho; exact .inl ⟨_,_,_,_,_,ho⟩
 ·rename_i ho; exact .inl ⟨_,_,_,_,_,ho⟩
 ·cases h
theorem XB (hb:Nb o):kL o=false:=by
 rcases hb with ⟨op,t,x,y,u,ho⟩ | ⟨op,t,x,ho⟩<;>simp only[kL,ho]
theorem Pa {g:FuncId} {targs:List TV} (h:MI tt te o=some (g,targs)):∃ f args argTypes fs cs xs,o.op = .call { callee := .value f,args,argTypes }∧fD te f=some (.fn g fs cs)∧lH te args.toList=some xs∧(fs++xs++cs).all eC=true∧aX (gp tt fs argTypes) (fs++xs++cs)=targs:=by
 unfold MI at h
 split at h
 ·rename_i f args argTypes ho
  split at h
  ·rename_i g' fs cs xs h1 h2
   split at h
   ·rename_i h3
    cases h
    exact⟨f,args,argTypes,fs,cs,xs,ho,h1,h2,h3,rfl⟩
   ·cases h
  ·cases h
 ·cases h
theorem Kc {g:FuncId} {kp:Nat} {targs ts:List TV} (h:Gl tt te tS o=some (g,kp,targs,ts)):∃ f args argTypes fs cs xs,o.op = .call { callee := .value f,args,argTypes }∧fD te f=some (.fn g fs cs)∧lH te args.toList=some xs∧tA kp (gp tt fs argTypes) (fs++xs++cs)=some targs∧(fs++xs++cs).any isRef=true∧tS[kp]? = some (.cells ts)∧gf ts=[]:=by
 unfold Gl at h
 split at h
 ·rename_i f args argTypes ho
  split at h
  ·rename_i g' fs cs xs h1 h2
   split at h
   ·split at h
    ·rename_i h4 h5
     split at h
     ·rename_i h6
      simp only[Bool.and_eq_true,List.isEmpty_iff] at h6
      cases h
      exact⟨f,args,argTypes,fs,cs,xs,ho,h1,h2,h4,h6.1,h5,h6.2⟩
     ·cases h
    ·cases h
   ·cases h
  ·cases h
 ·cases h
theorem Ke {g:FuncId} {kp:Nat} {targs ts:List TV} (h:Gn tt te tS o=some (g,kp,targs,ts)):∃ f args argTypes fs cs xs off rest,o.op = .call { callee := .value f,args,argTypes }∧fD te f=some (.fn g fs cs)∧lH te args.toList=some xs∧fs++xs++cs = .ptr kp off::rest∧rest.all eC=true∧tS[kp]? = some (.cells ts)∧ts.all tq=true∧targs = .ptr 0 off::aX (gp tt fs argTypes).tail rest:=by
 unfold Gn at h
 split at h
 ·rename_i f args argTypes ho
  split at h
  ·rename_i g' fs cs xs h1 h2
   split at h
   ·rename_i kp' off rest hl
    split at h
    ·rename_i qy h5
     split at h
     ·rename_i h6
      simp only[Bool.and_eq_true] at h6
      cases h
      exact⟨f,args,argTypes,fs,cs,xs,off,rest,ho,h1,h2,hl,h6.1,h5,h6.2,rfl⟩
     ·cases h
    ·cases h
   ·cases h
  ·cases h
 ·cases h
theorem ET {md:Nat} {v:TV} {cs:List TV} {K:Prop} (h:D5 md v cs K):(md=2→H8 v=true∧cs.all tq=true)∧K:=by
 unfold D5 at h
 split at h
 ·split at h
  ·rename_i h1
   simp only[Bool.and_eq_true] at h1
   exact⟨fun _=>h1,h⟩
  ·exact h.elim
 ·rename_i hn
  exact⟨fun e=>(hn e).elim,h⟩
theorem pH {k:Nat}:∀ {tS:List TB} {i:Nat},k∈en i tS↔i≤k∧∃ c,tS[k-i]? = some (.cells c)
 | [],i=>by simp[en]
 | b::l,i=>by
  have ih:=pH (k:=k) (tS:=l) (i:=i+1)
  have hs:∀ (c:List TV),i+1≤k→((b::l)[k-i]? = some (.cells c)↔l[k-(i+1)]? = some (.cells c)):=fun c h=>by
   rw[show k-i=(k-(i+1))+1 by omega,List.getElem?_cons_succ]
  cases b with
  | cells c0 =>
   simp only[en,List.mem_cons,ih]
   constructor
   ·rintro(rfl | ⟨h1,c,h2⟩)
    ·exact⟨Nat.le_refl _,c0,by simp⟩
    ·exact⟨by omega,c,(hs c h1).2 h2⟩
   ·rintro⟨h1,c,h2⟩
    by_cases e:k=i
    ·exact .inl e
    ·exact .inr ⟨by omega,c,(hs c (by omega)).1 h2⟩
  | none =>
   simp only[en,ih]
   constructor
   ·rintro⟨h1,c,h2⟩; exact⟨by omega,c,(hs c h1).2 h2⟩
   ·rintro⟨h1,c,h2⟩
    by_cases e:k=i
    ·subst e; simp at h2
    ·exact⟨by omega,c,(hs c (by omega)).1 h2⟩
  | map kt0 c0 =>
   simp only[en,ih]
   constructor
   ·rintro⟨h1,c,h2⟩; exact⟨by omega,c,(hs c h1).2 h2⟩
   ·rintro⟨h1,c,h2⟩
    by_cases e:k=i
    ·subst e; simp at h2
    ·exact⟨by omega,c,(hs c (by omega)).1 h2⟩
  | rows t0 e0 c0 z0 =>
   simp only[en,ih]
   constructor
   ·rintro⟨h1,c,h2⟩; exact⟨by omega,c,(hs c h1).2 h2⟩
   ·rintro⟨h1,c,h2⟩
    by_cases e:k=i
    ·subst e; simp at h2
    ·exact⟨by omega,c,(hs c (by omega)).1 h2⟩
  | own e0 s0 =>
   simp only[en,ih]
   constructor
   ·rintro⟨h1,c,h2⟩; exact⟨by omega,c,(hs c h1).2 h2⟩
   ·rintro⟨h1,c,h2⟩
    by_cases e:k=i
    ·subst e; simp at h2
    ·exact⟨by omega,c,(hs c (by omega)).1 h2⟩
theorem ER {k:Nat} {c:List TV} (h:tS[k]? = some (.cells c)):k∈en 0 tS:=pH.2 ⟨Nat.zero_le _,c,h⟩
theorem Xg:lY (en 0 tS) tS:=fun _ hk=>(pH.1 hk).2
mutual
theorem Rn (hi:∀ k,xA tS k=true→ι' k=ι k):∀ (v:TV) (d:DV),RT ι S v d→RT ι' S' (j7 tS v) d
 | .unk,_,_=>by simp only[j7,RT]
 | .val _,d,k=>by cases d<;>simp only[RT,j7] at k ⊢; exact k
 | .ei,d,k=>by cases d<;>simp only[RT,j7] at k ⊢; exact k
 | .agg l,d,k=>by cases d<;>simp only[RT,j7] at k ⊢; exact kH hi l _ k
 | .ee l,d,k=>by cases d<;>simp only[RT,j7] at k ⊢; exact kH hi l _ k
 | .sl t l .no,d,k=>by cases d<;>simp only[RT,j7] at k ⊢; exact k
 | .sl t l .full,d,k=>by cases d<;>simp only[RT,j7] at k ⊢; exact k
 | .sl t l (.qA g),d,k=>by cases d<;>simp only[RT,j7] at k ⊢; exact⟨k.1,trivial⟩
 | .ptr id off,d,k=>by
  cases d<;>simp only[RT] at k
  simp only[j7]
  split
  ·rename_i hc
   simp only[RT]
   exact⟨(hi _ hc).trans k.1,k.2⟩
  ·simp only[RT]
 | .cU t l i off,d,k=>by cases d<;>simp only[RT,j7] at k ⊢; exact k
 | .mp id,d,_=>by simp only[RT,j7]
 | .so g t,d,_=>by simp only[RT,j7]
 | .sp g t i off,d,_=>by simp only[RT,j7]
 | .fn f a b,d,k=>by cases d<;>simp only[RT,j7] at k ⊢; exact⟨k.1,kH hi a _ k.2.1,kH hi b _ k.2.2⟩
theorem kH (hi:∀ k,xA tS k=true→ι' k=ι k):∀ (l:List TV) (m:List DV),cA ι S l m→cA ι' S' (mH tS l) m
 | [],m,k=>by rw[aJ k]; simp only[mH]; exact bJ
 | a::l,m,k=>by
  obtain⟨d,m',rfl,h1,h2⟩:=aj k
  simp only[mH]
  exact aG (Rn hi a d h1) (kH hi l m' h2)
end
def Jb (call:aW) (g:FuncId) (A:List TV) (tS:List TB) (K:TV→List TB→Prop):Prop :=
 ∀ ι cn S,bK ι A tS cn S→∃ d S' ι' v bV,call g cn S=some (d,S')∧bK ι' [v] bV [d] S'∧lY (en 0 tS) bV∧Fr (en 0 tS) ι S ι' S'∧Nn S.length S S'∧K v bV
theorem O3 {f:Operand} {args:Array Operand} {argTypes:Array TypeId} {g:FuncId} {fs cs xs:List TV} {K:TV→List TB→Prop} (hop:o.op = .call { callee := .value f,args,argTypes }) (hf:fD te f=some (.fn g fs cs)) (ha:lH te args.toList=some xs) (hr:(fs++xs++cs).any isRef=true∨ty.h o=1)
  (hc:Jb call g (fs++xs++cs) tS K):Does P ty aD call yf B o nT te tS false fun v bT bV _=>bT=mH tS te∧K v bV:=by
 intro ι w env S aA hR hB hw hT Px hS
 obtain⟨xI,jw,Jc,k1,k2,k3⟩:=jr hR.env hf ha
 obtain⟨d,S',ι',v,bV,m1,m2,m3,m4,m5,m6⟩:=hc ι _ S ⟨k3,hR.cells,hR.own,hR.uE,hR.inj,hR.mp⟩
 obtain⟨w',Yr⟩:=F8 m2
 obtain⟨_,_,e,m7,-⟩:=aj m2.env
 cases e
 have Zt:∀ k,k∈B→k∈en 0 tS:=fun k hk=>by obtain⟨l,h1⟩:=hB k hk; exact ER h1
 refine⟨d,S',ι',w',v,mH tS te,bV,⟨none,true⟩,⟨none,true⟩,fun _ => ?_,fun e=>(by cases e),⟨fun e=>e,fun l hl=>(by cases hl)⟩,fun l m hl=>(by cases hl),⟨kH (fun k hk => ?_) _ _ hR.env,m2.cells,m2.own,m2.uE,m2.inj,m2.mp⟩,m7,Yr,fun e=>(by cases e),⟨m4.rest,m4.ours,fun k hk=>m4.base k (Zt k hk)⟩,fun k hk=>m3 k (Zt k hk),⟨m5.1,fun j hj dN=>m5.2 j (by have:=(List.getElem?_eq_some_iff.1 dN).1; omega) dN⟩,rfl,m6⟩
 ·rcases hr with hr | hr
  ·have:=sg hr k3
   simp only[ai,hop,k1,k2,tw,this,Bool.false_eq_true,if_false,m1]
   split<;>rfl
  ·simp only[ai,hop,k1,k2,hr,m1]
 ·unfold xA at hk
  split at hk
  ·rename_i c hc; exact m4.base k (ER hc)
  ·cases hk
theorem R6 {md:Nat} {A:List TV} {fn:Func} {j:List (Nat×LA)} (h:Vq ty T md te o=some (A,fn,j)):md=0∧∃ f args argTypes g fs cs xs,o.op = .call { callee := .value f,args,argTypes }∧fD te f=some (.fn g fs cs)∧lH te args.toList=some xs∧((fs++xs++cs).any isRef=true∨ty.h o=1)∧A=fs++xs++cs∧T.X g=some (fn,j):=by
 unfold Vq at h
 split at h
 ·split at h
  ·rename_i g A' h1
   split at h
   ·rename_i sN j' h2
    cases h
    unfold Zn at h1
    split at h1
    ·rename_i f args argTypes ho
     split at h1
     ·rename_i g' fs cs xs e1 e2
      split at h1
      ·rename_i hr
       cases h1
       exact⟨rfl,f,args,argTypes,g,fs,cs,xs,ho,e1,e2,by simpa using hr,rfl,h2⟩
      ·cases h1
     ·cases h1
    ·cases h1
   ·cases h
  ·cases h
 ·cases h
theorem mN {b:Bool} {c:Prop} (h:Vm ty te o=some (b,c)) (hc:c):(∃ op t x y u,o.op = .binOp op t x y u)∧∀ {env:List DV},cA ι S te env→∀ aA,ai P ty aD call yf (ga env) o S aA=some (.val (.bool b),S):=by
 unfold Vm at h
 split at h
 ·rename_i t x y _ ho
  refine⟨⟨_,_,_,_,_,ho⟩,fun {env} hE aA => ?_⟩
  split at h
  ·rename_i h1 h2 h3
   cases h
   obtain⟨d1,k1,k2⟩:=aT hE h2
   obtain⟨d2,k3,k4⟩:=aT hE h3
   cases d1<;>simp only[RT] at k2
   cases d2<;>simp only[RT] at k4
   obtain⟨rfl,rfl,rfl⟩:=k4
   rename_i rows tok f
   have hr:rows.isEmpty=false:=by
    have:=iS k2.1
    cases rows with
    | nil=>exact absurd (List.eq_nil_of_length_eq_zero (by simpa using this.symm)) hc
    | cons=>rfl
   simp only[ai,ho,valOf,k1,k3,Option.bind_some,vK,yg,h1,F0,hr,Bool.false_eq_true,if_false,Option.map_some]
  ·rename_i h1 h2 h3
   cases h
   obtain⟨d1,k1,k2⟩:=aT hE h2
   obtain⟨d2,k3,k4⟩:=aT hE h3
   cases d1<;>simp only[RT] at k2
   cases d2<;>simp only[RT] at k4
   obtain⟨rfl,rfl,rfl⟩:=k4
   obtain⟨rfl,rfl,rfl⟩:=k2
   simp only[ai,ho,valOf,k1,k3,Option.bind_some,vK,yg,h1,F0,List.isEmpty_nil,if_true,Option.map_some]
  ·cases h
 ·cases h
theorem EU {b:Value} (hb:∃ op t x y u,o.op = .binOp op t x y u) (h:∀ {ι:jF} {S:ak} {env:List DV},cA ι S te env→∀ aA,ai P ty aD call yf (ga env) o S aA=some (.val b,S)) (dr:Bool):Does P ty aD call yf B o nT te tS dr fun v bT bV ft=>v = .val b∧bT=te∧bV=tS∧ft=⟨some [],false⟩:=by
 intro ι w env S aA hR hB hw hT hn hS
 obtain⟨op,t,x,y,u,ho⟩:=hb
 refine⟨.val b,S,ι,w,.val b,te,tS,⟨some [],false⟩,⟨some [],false⟩,fun _=>h hR.env aA,fun _ => ?_,⟨id,fun l hl=>⟨[],rfl,fun j hj=>(by cases hj)⟩⟩,fun l m _ hm j hj=>(by cases hm; cases hj),hR,by simp only[RT],hw,fun _ _ _=>rfl,Fr.refl _ _ _,hB,ek _ _,rfl,rfl,rfl,rfl⟩
 have:=h hR.env aA
 simp only[aC,ho]
 rw[this]; rfl
theorem Wm {k:Nat} {b:Value} {Q:List TV→Prop} (ho:ops[k]? = some o) (hw:dc ops te o=some true) (hb:∃ op t x y u,o.op = .binOp op t x y u) (h:∀ {ι:jF} {S:ak} {env:List DV},cA ι S te env→∀ aA,ai P ty aD call yf (ga env) o S aA=some (.val b,S)) (hq:WQ P ty aD call yf ops tS (k+1) (jZ te o.dst (.val b)) Q):WQ P ty aD call yf ops tS k te Q:=by
 intro ι env S hR
 obtain⟨ay,bT,n1,n2,n3⟩:=hq ι (eH env o.dst (.val b)) S (ku hR (by simp only[RT]) _)
 refine⟨ay,bT,?_,n2,n3⟩
 rw[kC ho]
 have hs:=h hR.env S.length
 obtain⟨op,t,x,y,u,hop⟩:=hb
 have hq:bZ P ty aD call yf (ga env) o S=some (.val b):=by
  simp only[bZ,hop]
  rw[hs]; rfl
 simp only[lZ,fq hR.env hw,if_true,hq,n1]
def BS (P:Program) (ty:eV) (aD:bn) (call:aW) (yf:dH) (B:List Nat) (ops:Array Oper) (Q:List TV→List TB→Prop) (md:Nat) (oq:List TB) (k:Nat) (te:List TV) (tS:List TB) (fs:List cu):Prop :=
 match md with
 | 0=>WL P ty aD call yf B ops k te tS Q
 | 1=>tS=oq→WQ P ty aD call yf ops oq k te fun te=>Q te oq
 | _=>WD P ty aD call yf B ops k te tS fs Q
theorem CB {Q:List TV→List TB→Prop} {md k:Nat} {oq:List TB} (qL:md≤2) (ho:ops[k]? = some o) (hw:dc ops te o=some false) {K:KO} (hK:∀ te tS fs,K te tS fs→BS P ty aD call yf B ops Q md oq (k+1) te tS fs) (h:HS o te tS fs K):BS P ty aD call yf B ops Q md oq k te tS fs:=by
 have h1:=hK _ _ _ (gH (K:=fun te=>K te tS (fs++[eN])) h)
 rcases Pm qL with rfl | rfl | rfl
 ·exact QX ho hw h1
 ·exact fun e=>QW ho hw (h1 e)
 ·exact Q3 ho hw h1
variable {inl:Y9}
def vX (call:aW) (T:gN) (inl:Y9):Prop:=∀ g fn j A tS (K:TV→List TB→Prop),T.X g=some (fn,j)→inl fn j A tS K→Jb call g A tS K
def QL (ty:eV) (md:Nat) (o:Oper) (Ab:List TV) (Dm:List TB) (te:List TV) (tS:List TB):Prop :=
 match md with
 | 0=>FX ty Ab Dm o=some (te,tS)
 | _=>Ab=te∧Dm=tS
theorem Sy (hT:oI T aD call) (hI:vX call T inl) {Q:List TV→List TB→Prop} {md n0 k:Nat} {oq Dm:List TB} {Ab:List TV} (qL:md≤2) (ho:ops[k]? = some o) (hw:dc ops Ab o=some true) (oy:QL ty md o Ab Dm te tS) {K:KO} (hK:∀ te tS fs,K te tS fs→BS P ty aD call yf B ops Q md oq (k+1) te tS fs)
  (hn:BX tS (Jq md n0 k tS)=true) (h:MJ ty tt T inl md o te tS fs K):BS P ty aD call yf B ops Q md oq k Ab Dm fs:=by
 unfold MJ at h
 split at h
 ·rename_i A fn j hx
  obtain⟨rfl,f,args,argTypes,g,fs1,cs1,xs,c1,c2,c3,c4,rfl,c5⟩:=R6 hx
  refine kW ho hw oy (O3 c1 c2 c3 c4 (hI g fn j _ tS _ c5 h)) ?_
  rintro v bT bV ft ⟨rfl,hv⟩
  exact hK _ _ _ (gH (K:=fun te=>K te bV fs) (b9 (mH tS te) (K:=fun te=>ir te o.dst v fun te=>K te bV fs) (fM v (K:=fun v=>cS (mH tS te) fun te=>ir te o.dst v fun te=>K te bV fs) hv)))
 split at h
 ·exact h.elim
 rename_i hh
 replace hh:ty.h o≠1:=by simpa using hh
 split at h
 ·rename_i g targs hc
  obtain⟨f,args,argTypes,fs1,cs1,xs,c1,c2,c3,c4,c5⟩:=Pa hc
  split at h
  ·rename_i p s hm hs
   have hm:md=0:=by simpa using hm
   subst hm
   obtain⟨hp,h⟩:=iD h
   refine kW ho hw oy (Hq c1 hh c2 c3 c4 c5 (hT.N _ _ _ _ hs hp)) ?_
   rintro v bT bV ft ⟨ts,hq,rfl,rfl,rfl⟩
   have e:oB tS tS.length (.cells ts)=tS++[.cells ts]:=by unfold oB; rw[if_neg (Nat.lt_irrefl _)]
   rw[e]
   exact hK _ _ _ (gH (K:=fun te=>K te (tS++[.cells ts]) fs) (Hu (R:=fun cs=>ir bT o.dst (.ptr tS.length 0) fun te=>K te (tS++[.cells cs]) fs) h hq))
  ·split at h
   ·rename_i p s hs
    obtain⟨hp,h⟩:=iD h
    have hsp:=hT.I _ _ _ _ hs hp
    have fin:∀ v,s.rM v→BS P ty aD call yf B ops Q md oq (k+1) (jZ te o.dst v) tS (fs++[eN]):=fun v hv =>
     hK _ _ _ (gH (K:=fun te=>K te tS (fs++[eN])) (fM v (K:=fun v=>ir te o.dst v fun te=>K te tS (fs++[eN])) (Ht (R:=fun v=>gm v fun v=>ir te o.dst v fun te=>K te tS (fs++[eN])) h hv)))
    rcases Pm qL with rfl | rfl | rfl
    ·skip
     refine kW ho hw oy (zJ c1 hh c2 c3 c4 c5 hsp false) ?_
     rintro v bT bV ft ⟨hv,rfl,rfl,-⟩
     exact fin v hv
    ·obtain⟨rfl,rfl⟩:=oy
     exact fun e=>NG ho hw c1 hh c2 c3 c4 c5 hsp fun v hv=>fin v hv e
    ·skip
     obtain⟨rfl,rfl⟩:=oy
     refine xU ho hw hn (zJ c1 hh c2 c3 c4 c5 hsp true) ?_
     rintro v bT bV ft ⟨hv,rfl,rfl,rfl⟩
     exact fin v hv
   ·exact h.elim
 ·split at h
  ·rename_i g kp targs ts hc
   split at h
   ·rename_i p s hs
    obtain⟨hp,h⟩:=iD h
    have hsp:=hT.C _ _ _ _ _ hs hp
    have all:∀ v cs,s.holds v cs→D5 md v cs (gm v fun v=>ir te o.dst v fun te=>cS cs fun cs=>cH (tS.set kp (.cells cs)) fun tS=>K te tS (fs++[x7 md kp])):=fun v cs hv =>
     KT (R:=fun v cs=>D5 md v cs (gm v fun v=>ir te o.dst v fun te=>cS cs fun cs=>cH (tS.set kp (.cells cs)) fun tS=>K te tS (fs++[x7 md kp]))) h hv
    have fin:∀ v cs,s.holds v cs→BS P ty aD call yf B ops Q md oq (k+1) (jZ te o.dst v) (tS.set kp (.cells cs)) (fs++[x7 md kp]):=fun v cs hv=>by
     have h1:=gH (fM v (K:=fun v=>ir te o.dst v fun te=>cS cs fun cs=>cH (tS.set kp (.cells cs)) fun tS=>K te tS (fs++[x7 md kp])) (ET (all v cs hv)).2)
     exact hK _ _ _ (cL _ (K:=fun tS=>K _ tS (fs++[x7 md kp])) (b9 cs (K:=fun cs=>cH (tS.set kp (.cells cs)) fun tS=>K _ tS (fs++[x7 md kp])) h1))
    rcases Pm qL with rfl | rfl | rfl
    ·obtain⟨f,args,argTypes,fs1,cs1,xs,c1,c2,c3,c4,c5,c6,c7⟩:=Kc (tt:=tt) hc
     refine kW ho hw oy (Ho c1 hh c2 c3 c4 c5 c6 c7 hsp) ?_
     rintro v bT bV ft ⟨qy,hv,rfl,rfl,-⟩
     exact fin v qy hv
    ·cases hc
    ·obtain⟨f,args,argTypes,fs1,cs1,xs,off,rest,c1,c2,c3,c4,c5,c6,c7,rfl⟩:=Ke (tt:=tt) hc
     obtain⟨rfl,rfl⟩:=oy
     refine xU ho hw hn (FA (tt:=tt) c1 hh c2 c3 c4 c5 c6 c7 hsp fun v cs hv=>(ET (all v cs hv)).1 rfl) ?_
     rintro v bT bV ft ⟨qy,hv,rfl,rfl,rfl⟩
     exact fin v qy hv
   ·exact h.elim
  ·exact h.elim
theorem EA {Q:List TV→List TB→Prop} {md n0 k:Nat} {oq Dm:List TB} {Ab:List TV} (qL:md≤2) (ho:ops[k]? = some o) (hw:dc ops Ab o=some true) (oy:QL ty md o Ab Dm te tS) {K:KO} (hK:∀ te tS fs,K te tS fs→BS P ty aD call yf B ops Q md oq (k+1) te tS fs)
  (hn:BX tS (Jq md n0 k tS)=true) {v:TV} (hb:Nb o) (hp:bg P ty tt te tS o=some (v,True)) (h:ir te o.dst v fun te=>K te tS (fs++[eN])):BS P ty aD call yf B ops Q md oq k Ab Dm fs:=by
 have h1:=hK _ _ _ (gH (K:=fun te=>K te tS (fs++[eN])) h)
 rcases Pm qL with rfl | rfl | rfl
 ·skip
  refine kW ho hw oy (qq (uj hb hp) trivial false) ?_
  rintro v' bT bV ft ⟨rfl,rfl,rfl,-⟩
  exact h1
 ·obtain⟨rfl,rfl⟩:=oy
  exact fun e=>Im ho hw (e▸hp) trivial (h1 e)
 ·skip
  obtain⟨rfl,rfl⟩:=oy
  refine xU ho hw hn (qq (uj hb hp) trivial true) ?_
  rintro v' bT bV ft ⟨rfl,rfl,rfl,rfl⟩
  rw[XB hb]
  exact h1
theorem M4 (hT:oI T aD call) (hI:vX call T inl) {Q:List TV→List TB→Prop} {md n0 k:Nat} {oq Dm:List TB} {Ab:List TV} (qL:md≤2) (ho:ops[k]? = some o) (hw:dc ops Ab o=some true) (oy:QL ty md o Ab Dm te tS) {K:KO} (hK:∀ te tS fs,K te tS fs→BS P ty aD call yf B ops Q md oq (k+1) te tS fs)
  (h:Qo P ty tt T inl md n0 k o te tS fs K):BS P ty aD call yf B ops Q md oq k Ab Dm fs:=by
 unfold Qo at h
 split at h
 ·exact h.elim
 ·rename_i hn
  split at h
  ·exact Sy hT hI qL ho hw oy hK hn h
  ·split at h
   ·rename_i v bT bV f c hm
    obtain⟨hc,h⟩:=h
    have h1:=gH (b9 bT (K:=fun te=>ir te o.dst v fun te=>cH bV fun tS=>K te tS (fs++[f])) (fM v (K:=fun v=>cS bT fun te=>ir te o.dst v fun te=>cH bV fun tS=>K te tS (fs++[f])) h))
    have h1:=hK _ _ _ (cL bV (K:=fun tS=>K _ tS (fs++[f])) h1)
    unfold TL at hm
    split at hm
    ·rename_i v2 g c2 hr
     cases hm
     rcases Pm qL with rfl | rfl | rfl
     ·refine kW ho hw oy (zI hr hc false) ?_
      rintro v' Yg PR ft ⟨rfl,rfl,rfl,rfl⟩
      exact h1
     ·obtain⟨rfl,rfl⟩:=oy
      exact fun e=>NF ho hw (e▸hr) hc (h1 e)
     ·obtain⟨rfl,rfl⟩:=oy
      refine xU ho hw hn (zI hr hc true) ?_
      rintro v' Yg PR ft ⟨rfl,rfl,rfl,rfl⟩
      exact h1
    ·split at hm
     ·cases hm
     rename_i h91
     split at hm
     ·rename_i g PR hs
      cases hm
      rcases Pm qL with rfl | rfl | rfl
      ·refine kW ho hw oy (zH hs false) ?_
       rintro v' Yg PR ft ⟨rfl,rfl,rfl,rfl⟩
       exact h1
      ·exact absurd rfl h91
      ·obtain⟨rfl,rfl⟩:=oy
       refine xU ho hw hn (zH hs true) ?_
       rintro v' Yg PR ft ⟨rfl,rfl,rfl,rfl⟩
       exact h1
     ·split at hm
      ·rename_i h90
       subst h90
       simp only[Option.map_eq_some_iff,Prod.mk.injEq] at hm
       obtain⟨⟨v2,Yg,PR,c2⟩,hs,rfl,rfl,rfl,rfl,rfl⟩:=hm
       refine kW ho hw oy (Hp hs hc) ?_
       rintro v' te3 tS3 ft ⟨rfl,rfl,rfl⟩
       exact h1
      ·cases hm
   split at h
   ·rename_i v bV c hm
    have h0:md=0:=by
     unfold mapM at hm
     split at hm
     ·rfl
     ·cases hm
    subst h0
    refine kW ho hw oy (O2 hm h.1) ?_
    rintro v' bT PR ft ⟨rfl,rfl,rfl⟩
    have h1:=gH (fM v' (K:=fun v=>ir bT o.dst v fun te=>cH PR fun tS=>K te tS (fs++[⟨none,true⟩])) h.2)
    exact hK _ _ _ (cL PR (K:=fun tS=>K _ tS (fs++[⟨none,true⟩])) h1)
   split at h
   ·rename_i v c ha
    exact EA qL ho hw oy hK hn (KR ha) (Hs (tt:=tt) ha h.1) h.2
   ·split at h
    ·rename_i b _ hb
     exact EA qL ho hw oy hK hn (Sq hb) (O7 (tt:=tt) hb) h
    ·rename_i b c _ _ hb
     obtain⟨hc,h⟩:=h
     have h1:=hK _ _ _ (gH (K:=fun te=>K te tS (fs++[eN])) h)
     rcases Pm qL with rfl | rfl | rfl
     ·refine kW ho hw oy (EU (mN (P:=P) (aD:=aD) (call:=call) (yf:=yf) (ι:=eD) (S:=[]) hb hc).1 (fun hE aA=>(mN hb hc).2 hE aA) false) ?_
      rintro v' bT bV ft ⟨rfl,rfl,rfl,-⟩
      exact h1
     ·obtain⟨rfl,rfl⟩:=oy
      exact fun e=>Wm ho hw (mN (P:=P) (aD:=aD) (call:=call) (yf:=yf) (ι:=eD) (S:=[]) hb hc).1 (fun hE aA=>(mN hb hc).2 hE aA) (h1 e)
     ·obtain⟨rfl,rfl⟩:=oy
      refine xU ho hw hn (EU (mN (P:=P) (aD:=aD) (call:=call) (yf:=yf) (ι:=eD) (S:=[]) hb hc).1 (fun hE aA=>(mN hb hc).2 hE aA) true) ?_
      rintro v' bT bV ft ⟨rfl,rfl,rfl,rfl⟩
      exact h1
    ·have key:md≠1→∀ q:TR,stepT P ty tt te tS o (Jq md n0 k tS)=some q→q.c→K (jZ q.te o.dst q.v) q.tS (fs++[⟨some q.B4,kL o⟩])→BS P ty aD call yf B ops Q md oq k Ab Dm fs:=by
      intro hm q hq hc hk
      have h1:=hK _ _ _ hk
      rcases Pm qL with rfl | rfl | rfl
      ·skip
       refine kW ho hw oy (qq hq hc false) ?_
       rintro v' bT bV ft ⟨rfl,rfl,rfl,-⟩
       exact h1
      ·exact(hm rfl).elim
      ·skip
       obtain⟨rfl,rfl⟩:=oy
       refine xU ho hw hn (qq hq hc true) ?_
       rintro v' bT bV ft ⟨rfl,rfl,rfl,rfl⟩
       exact h1
     split at h
     ·split at h
      ·rename_i q hq
       have fin:∀ {R:Prop},q.2→K (jZ te o.dst q.1) tS (fs++[eN])→BS P ty aD call yf B ops Q 1 oq k Ab Dm fs:=fun {_} hc hk=>by
        obtain⟨h8,h9⟩:=oy
        subst h8 h9
        exact fun e=>Im ho hw (e▸(show bg P ty tt Ab Dm o=some (q.1,q.2) from hq)) hc (hK _ _ _ hk e)
       split at h
       ·exact fin (R:=True) h.1 (gH (K:=fun te=>K te tS (fs++[eN])) (fM q.1 (K:=fun v=>ir te o.dst v fun te=>K te tS (fs++[eN])) h.2))
       ·rename_i kT
        exact fin (R:=True) (EJ kT hq) (gH (K:=fun te=>K te tS (fs++[eN])) (fM q.1 (K:=fun v=>ir te o.dst v fun te=>K te tS (fs++[eN])) h))
      ·exact h.elim
     ·rename_i hm
      split at h
      ·rename_i q hq
       split at h
       ·refine key (fun e=>hm e) q hq h.1 ?_
        have h1:=b9 q.te (fM q.v (K:=fun v=>cS q.te fun te=>ir te o.dst v fun te=>cH q.tS fun tS=>K te tS (fs++[⟨some q.B4,kL o⟩])) h.2)
        exact cL q.tS (K:=fun tS=>K _ tS _) (gH h1)
       ·rename_i kT
        refine key (fun e=>hm e) q hq (OG kT hq) ?_
        have h1:=gH (fM q.v (K:=fun v=>ir q.te o.dst v fun te=>cH q.tS fun tS=>K te tS (fs++[⟨some q.B4,kL o⟩])) h)
        exact cL q.tS (K:=fun tS=>K _ tS _) h1
      ·exact h.elim
theorem En {n:Int} {K:Nat→Prop}:∀ (c j:Nat),Gc n K c j→∃ i:Nat,n=i∧K i
 | 0,_,h=>h.elim
 | c+1,j,h=>by
  obtain⟨h1,h2⟩:=qd h
  by_cases e:n=(j:Int)
  ·exact⟨j,e,h1 (decide_eq_true e)⟩
  ·exact En c (j+1) (h2 (decide_eq_false e))
theorem XD {t c:Nat} {n:Int} (h:V0 ty te o=some (t,n,c)):te[t]? = some (.val (.int .i64 n)):=by
 unfold V0 at h
 split at h
 ·split at h
  ·rename_i h1 h2; cases h; exact h2
  ·cases h
 ·split at h
  ·rename_i h1 h2; cases h; exact h2
  ·cases h
 ·cases h
theorem M3 (hT:oI T aD call) (hI:vX call T inl) {Q:List TV→List TB→Prop} {md n0 k:Nat} {oq Dm:List TB} {Ab:List TV} (qL:md≤2) (ho:ops[k]? = some o) (hw:dc ops Ab o=some true) (oy:QL ty md o Ab Dm te tS) {K:KO} (hK:∀ te tS fs,K te tS fs→BS P ty aD call yf B ops Q md oq (k+1) te tS fs)
  (h:Jp P ty tt T inl md n0 k o te tS fs K):BS P ty aD call yf B ops Q md oq k Ab Dm fs:=by
 unfold Jp at h
 split at h
 ·rename_i t n c ha
  obtain⟨i,rfl,hi⟩:=En _ _ h
  have:=lN te t _ hi
  rw[lg (XD ha)] at this
  exact M4 hT hI qL ho hw oy hK this
 ·exact M4 hT hI qL ho hw oy hK h
theorem Mm (hT:oI T aD call) (hI:vX call T inl) {Q:List TV→List TB→Prop} {md n0 k:Nat} {oq:List TB} (qL:md≤2) (ho:ops[k]? = some o) (hw:dc ops te o=some true) {K:KO} (hK:∀ te tS fs,K te tS fs→BS P ty aD call yf B ops Q md oq (k+1) te tS fs)
  (h:Yk P ty tt T inl md n0 k o te tS fs K):BS P ty aD call yf B ops Q md oq k te tS fs:=by
 unfold Yk at h
 split at h
 ·split at h
  ·rename_i jU gM hp
   exact M3 hT hI qL ho hw hp hK (cL gM (K:=fun tS=>Jp P ty tt T inl 0 n0 k o jU tS fs K) (b9 jU (K:=fun te=>cH gM fun tS=>Jp P ty tt T inl 0 n0 k o te tS fs K) h))
  ·exact h.elim
 ·rename_i hno
  refine M3 hT hI qL ho hw ?_ hK h
  rcases Pm qL with rfl | rfl | rfl
  ·show FX ty te tS o=some (te,tS)
   unfold FX
   split
   ·rename_i h2; exact(hno rfl h2).elim
   ·rfl
  ·exact⟨rfl,rfl⟩
  ·exact⟨rfl,rfl⟩
theorem Uk {b:Bool} (h:Y2 ops te o = .no b):dc ops te o=some b:=by
 unfold Y2 at h
 unfold dc
 split at h
 ·cases h; rename_i e; rw[e]
 ·rename_i e
  rw[e]
  dsimp only
  split at h
  ·rename_i e1
   rw[e1]
   dsimp only
   split at h
   ·cases h
   ·cases h
   ·cases h
    rename_i v hv e2
    rw[e2]
    split<;>simp_all
   ·cases h
  ·cases h; rename_i e1; rw[e1]
theorem Xq {d:Tmp} {b want:Bool} (h:Y2 ops te o = .ask d b want):te[d]? = some (.val (.bool b))∧dc ops te o=some (match want with | true=>b | false => !b):=by
 unfold Y2 at h
 unfold dc
 split at h
 ·cases h
 ·rename_i e
  rw[e]
  dsimp only
  split at h
  ·rename_i e1
   rw[e1]
   dsimp only
   split at h
   ·cases h; rename_i e2; rw[e2]; cases want<;>exact⟨rfl,rfl⟩
   ·cases h
   ·cases h
   ·cases h
  ·cases h
theorem yd (hT:oI T aD call) (hI:vX call T inl) {Q:List TV→List TB→Prop} {md n0:Nat} {oq:List TB} (qL:md≤2) {K:KO} (hK:∀ te tS fs,K te tS fs→BS P ty aD call yf B ops Q md oq ops.size te tS fs) :
  ∀ (r:List Oper) (k:Nat) (te:List TV) (tS:List TB) (fs:List cu),ops.toList.drop k=r→lI P ty tt T inl md n0 ops r k te tS fs K→BS P ty aD call yf B ops Q md oq k te tS fs
 | [],k,te,tS,fs,hr,h=>by
  have hk:ops.size≤k:=by
   have:=List.drop_eq_nil_iff.1 hr
   simpa using this
  have h1:=hK te tS fs h
  rcases Pm qL with rfl | rfl | rfl
  ·intro ι env S hR hB; have:=h1 ι env S hR hB; rw[List.drop_eq_nil_of_le (by simp)] at this; rw[List.drop_eq_nil_of_le (by simpa using hk)]; exact this
  ·intro e ι env S hR; have:=h1 e ι env S hR; rw[List.drop_eq_nil_of_le (by simp)] at this; rw[List.drop_eq_nil_of_le (by simpa using hk)]; exact this
  ·skip
   intro ι w env S n0 hR hB hw hn
   have:=h1 ι w env S n0 hR hB hw (fun j hj sU=>by omega)
   rw[List.drop_eq_nil_of_le (by simp)] at this
   rw[List.drop_eq_nil_of_le (by simpa using hk)]
   obtain⟨ay,S',xI,ι',w',bT,bV,ft,e1,e2,e3,e4,e5,e6,e7,e8,e9⟩:=this
   exact⟨ay,S',xI,ι',w',bT,bV,ft,e1,e2,fun j _=>e3 j fun i hi HJ=>by omega,e4,e5,e6,e7,⟨e8.1,fun j _ hn=>e8.2 j (fun i hi HJ=>by omega) hn⟩,e9⟩
 | o::r,k,te,tS,fs,hr,h=>by
  obtain⟨ho,xb⟩:=Fu hr
  have ih:∀ te tS fs,lI P ty tt T inl md n0 ops r (k+1) te tS fs K→BS P ty aD call yf B ops Q md oq (k+1) te tS fs:=fun te tS fs=>yd hT hI qL hK r (k+1) te tS fs xb.symm
  simp only[lI] at h
  split at h
  ·rename_i hg
   exact Mm hT hI qL ho (Uk hg) ih h
  ·rename_i hg
   exact CB qL ho (Uk hg) ih h
  ·rename_i d b want hg
   obtain⟨h1,h2⟩:=Xq hg
   split at h
   ·obtain⟨k1,k2⟩:=qd h
    cases b with
    | true=>have:=lN te d _ (k1 rfl); rw[lg h1] at this; exact Mm hT hI qL ho h2 ih this
    | false=>have:=lN te d _ (k2 rfl); rw[lg h1] at this; exact CB qL ho h2 ih this
   ·obtain⟨k1,k2⟩:=qd h
    cases b with
    | true=>have:=lN te d _ (k1 rfl); rw[lg h1] at this; exact CB qL ho h2 ih this
    | false=>have:=lN te d _ (k2 rfl); rw[lg h1] at this; exact Mm hT hI qL ho h2 ih this
  ·exact h.elim
end Go.Tv
end
section
namespace Go.Tv
open Go Go.Di Go.Proofs
variable {P:Program} {ty:eV} {tt:TypeId→Option TT} {T:gN} {ι ι' w:jF} {S S':ak} {te jU:List TV} {env:List DV} {tS gM:List TB} {aD:bn} {call:aW} {yf:dH} {o:Oper} {aA nT:Nat} {B:List Nat} {r:TR} {ops:Array Oper} {fn:FuncId} {fC:Bool} {fs:List cu}
def LA.St:LA→Type
 | .ex α k=>(x:α)×(k x).St
 | .st _=>Unit
 | .un _=>Empty
 | .dep _=>Empty
 | .pe _ _=>Empty
def LA.bd:(la:LA)→la.St→Bd
 | .ex _ k,⟨x,s⟩=>(k x).bd s
 | .st b,_=>b
theorem tJ {K:Bd→Prop}:∀ {la:LA},la.some K→∃ s:la.St,K (la.bd s)
 | .ex _ k,⟨x,h⟩=>by
  obtain⟨s,h1⟩:=tJ (la:=k x) h
  exact⟨⟨x,s⟩,h1⟩
 | .st b,h=>⟨(),h⟩
 | .un _,h=>h.elim
 | .dep _,h=>h.elim
 | .pe _ _,h=>h.elim
theorem HV {K:Bd→Prop}:∀ {la:LA},la.all K→∀ s:la.St,K (la.bd s)
 | .ex _ _,h,⟨x,s⟩=>HV (h x) s
 | .st _,h,_=>h
theorem OZ {b:Bd} {keep:Nat} {K:Prop} (h:Ns B b keep te tS K):Fits B (j6 b.sl keep 0 te) (tn b tS) te tS∧cF b.dX∧K:=by
 obtain⟨h0,h⟩:=ki h
 simp only[Bool.and_eq_true] at h0
 obtain⟨l1,e1,k1,h⟩:=iX h
 obtain⟨l2,e2,k2,h⟩:=iX h
 obtain⟨h3,h4⟩:=iD h
 exact⟨⟨tZ e1 k1,gJ e2 k2,h0.1,fun k hk=>List.all_eq_true.1 h0.2 k hk⟩,h3,h4⟩
theorem xD {b:Bd} {K:Prop} (h:Ig B jU gM b te tS K):Fits B jU gM te tS∧cF b.dX∧K:=by
 obtain⟨h0,h⟩:=ki h
 simp only[Bool.and_eq_true] at h0
 obtain⟨l1,e1,k1,h⟩:=iX h
 obtain⟨l2,e2,k2,h⟩:=iX h
 obtain⟨h3,h4⟩:=iD h
 exact⟨⟨tI e1 k1,RR e2 k2,h0.1,fun k hk=>List.all_eq_true.1 h0.2 k hk⟩,h3,h4⟩
theorem Mc {N:Nat} {c:Code} {Q:DX→List TV→List TB→Prop} {K:List TV→List TB→Prop} {f:List TV→List TB→(List TV→List TB→Prop)→Prop} (hf:∀ te tS K',f te tS K'→WT P ty aD call yf B LL fn fC c te tS fun e te tS=>match e with | .normal=>K' te tS | e=>Q e te tS) (hK:∀ te tS,K te tS→WI P ty aD call yf B LL fn fC N c te tS Q) :
  ∀ (n:Nat) (te:List TV) (tS:List TB),unK f K n te tS→WI P ty aD call yf B LL fn fC (N+n) c te tS Q
 | 0,te,tS,h=>hK te tS h
 | n+1,te,tS,h=>QZ ((hf te tS _ h).mono fun e te tS hq=>by
   cases e with
   | normal=>exact Mc hf hK n te tS hq
   | exit id=>exact hq
   | ret=>exact hq)
theorem Q0 {n m:Nat} {c:Code} {Q:DX→List TV→List TB→Prop} (hn:n≤m) (h:WI P ty aD call yf B LL fn fC n c te tS Q):WI P ty aD call yf B LL fn fC m c te tS Q:=by
 intro ι env S hR hB
 obtain⟨e,ay,S',ι',bT,bV,h1,h2⟩:=h ι env S hR hB
 exact⟨e,ay,S',ι',bT,bV,vu hn h1,h2⟩
theorem Es {x:Operand} {v:Bool} {K:List TV→Prop} (hx:fD te x=some (.val (.bool v))) (h:Mf x te v K):K te:=by
 cases x with
 | tmp t =>
  simp only[fD,Option.some.injEq] at hx
  have:=lN te t _ (h:Ak te t _ K)
  rwa [lg] at this
  rw[List.getD_eq_getElem?_getD] at hx
  cases e:te[t]? with
  | none=>rw[e] at hx; cases hx
  | some a=>rw[e] at hx; exact congrArg some hx
 | _=>exact h
variable {inl:Y9}
theorem Jz (hT:oI T aD call) (hI:vX call T inl) {id:Nat} {draw:Bool} {J:List (Nat×LA)} {i lv:Nat} {Q:DX→List TV→List TB→Prop} (h:sQ P ty tt T inl B J (.region id ops draw) i lv te tS Q):WT P ty aD call yf B LL fn fC (.region id ops draw) te tS Q:=by
 simp only[sQ] at h
 split at h
 ·split at h
  ·rename_i hn
   obtain⟨hd,h⟩:=ki h
   refine NC hd hn ?_
   exact yd (md:=2) (n0:=tS.length) (oq:=tS) (Q:=fun te tS=>Q .normal te (jX tS)) hT hI (by omega) (fun te tS fs hk=>by
    obtain⟨hm,hk⟩:=ki hk
    exact Wt (Nat.le_refl _) hm (cL _ (K:=fun tS=>Q .normal te tS) hk)) ops.toList 0 te _ [] rfl (cL _ (K:=fun oq=>lI P ty tt T inl 2 tS.length ops ops.toList 0 te oq [] fun te tS fs=>aM (oG (Region.before ops) fs) (cH (jX tS) fun tS=>Q .normal te tS) False) h)
  ·rename_i hn
   obtain⟨hd,h⟩:=ki h
   refine Ny hd hn ?_
   exact yd (B:=B) (md:=1) (n0:=0) (oq:=tS) (Q:=fun te tS=>Q .normal te tS) hT hI (by omega) (fun te tS fs hk _=>MQ (Nat.le_refl _) hk) ops.toList 0 te _ [] rfl h rfl
 ·refine NA ?_
  exact yd (md:=0) (n0:=0) (oq:=tS) (Q:=fun te tS=>Q .normal te (jX tS)) hT hI (by omega) (fun te tS fs hk=>Wn (Nat.le_refl _) (cL _ (K:=fun tS=>Q .normal te tS) hk)) ops.toList 0 te _ [] rfl h
theorem J6 {c:Code} (h:Gk P c=some ops):qM P ops=false∧∃ id,c = .region id ops true:=by
 unfold Gk at h
 split at h
 ·split at h
  ·cases h
  ·rename_i hl; cases h; exact⟨Bool.eq_false_iff.2 hl,_,rfl⟩
 ·cases h
theorem zn {env:List DV} {dst:Option Tmp} {v:DV} {i:Nat} (h:dst≠some i):(eH env dst v)[i]? = env[i]? := by
 cases dst with
 | none=>rfl
 | some d =>
  simp only[eH]
  rw[List.getElem?_set,if_neg (fun e=>h (by rw[e]))]
theorem vh {i:Nat}:∀ {l:List Oper} {env ay:List DV},lZ P ty aD call yf ops S l env=some ay→(∀ o∈l,o.dst≠some i)→ay[i]? = env[i]?
 | [],env,ay,h,_=>by cases h; rfl
 | o::l,env,ay,h,hd=>by
  simp only[lZ] at h
  split at h
  ·split at h
   ·rw[vh h fun o' ja=>hd o' (List.mem_cons_of_mem _ ja),zn (hd o (List.mem_cons_self ..))]
   ·cases h
  ·rw[vh h fun o' ja=>hd o' (List.mem_cons_of_mem _ ja),zn (hd o (List.mem_cons_self ..))]
theorem Xd {u v:TV} {d:DV} (h:LeV u v) (hd:RT ι S v d):RT ι S u d:=by
 obtain⟨_,_,e,h1,-⟩:=aj (Gq (h [] [] .nil) (di hd))
 cases e
 exact h1
theorem sE {sl:List (Nat×TV)} {keep:Nat}:∀ {i:Nat} {te bT:List TV} {env ay:List DV} {l:List Prop},cA ι S te env→cA ι S bT ay→bT.length=te.length→qO sl i bT=some l→cF l→(∀ j,keep.testBit (i+j)=true→ay[j]? = env[j]?)→cA ι S (j6 sl keep i te) ay
 | _,[],[],_,_,_,_,h2,_,_,_,_=>by rw[aJ h2]; exact bJ
 | i,v::te,v'::bT,env,ay,l,h1,h2,hn,hp,hc,hk=>by
  obtain⟨d,m,rfl,a1,a2⟩:=aj h1
  obtain⟨d',m',rfl,b1,b2⟩:=aj h2
  have HD:bT.length=te.length:=by simpa using hn
  have pR:∀ j,keep.testBit (i+1+j)=true→m'[j]? = m[j]? := fun j hj=>by
   have:=hk (j+1) (by rw[← Nat.add_assoc,Nat.add_right_comm]; exact hj)
   simpa using this
  simp only[qO] at hp
  simp only[j6]
  split at hp
  ·rename_i p Lz
   split at hp
   ·rename_i x y e1 e2
    cases hp
    obtain⟨k1,k2⟩:=jo hc
    exact aG (Xd (Gp e1 k1) b1) (sE a2 b2 HD e2 k2 pR)
   ·cases hp
  ·refine aG ?_ (sE a2 b2 HD hp hc pR)
   split
   ·rename_i hb
    have:=hk 0 hb
    simp only[List.getElem?_cons_zero,Option.some.injEq] at this
    rw[this]; exact a1
   ·simp only[RT]
 | _,[],_::_,_,_,_,_,_,hn,_,_,_=>by simp at hn
 | _,_::_,[],_,_,_,_,_,hn,_,_,_=>by simp at hn
theorem yC:∀ {l:List Oper} {env ay:List DV},lZ P ty aD call yf ops S l env=some ay→ay.length=env.length
 | [],env,ay,h=>by cases h; rfl
 | o::l,env,ay,h=>by
  have hp:∀ (dst:Option Tmp) (v:DV),(eH env dst v).length=env.length:=fun dst v=>by cases dst<;>simp[eH]
  simp only[lZ] at h
  split at h
  ·split at h
   ·rw[yC h,hp]
   ·cases h
  ·rw[yC h,hp]
theorem Nz {id:Nat} {b:Code} {Q:DX→List TV→List TB→Prop} {la:LA} {keep:Nat} (hd:iP ops (Region.before ops)=true) (hl:qM P ops=false) (hk:Nc keep ops=true)
  (h1:WQ P ty aD call yf ops tS 0 te fun bT=>la.some fun bd=>ask (qO bd.sl 0 bT) (xT bd.dX True))
  (h2:∀ s:la.St,cF (la.bd s).dX→WT P ty aD call yf B LL fn fC b (j6 (la.bd s).sl keep 0 te) tS Q):WT P ty aD call yf B LL fn fC (.seq (.region id ops true) b) te tS Q:=by
 intro ι env S hR hB
 obtain⟨ay,bT,k1,k2,k3⟩:=h1 ι env S hR
 rw[List.drop_zero] at k1
 obtain⟨s,hs⟩:=tJ k3
 obtain⟨l,e1,e2,e3⟩:=iX hs
 obtain⟨e3,-⟩:=iD e3
 have Le:bK ι (j6 (la.bd s).sl keep 0 te) tS ay S:=by
  refine⟨sE hR.env k2.env ?_ e1 e2 fun j hj => ?_,k2.cells,k2.own,k2.uE,k2.inj,k2.mp⟩
  ·rw[← ff k2.env,← ff hR.env,yC k1]
  ·refine vh k1 fun o ho e => ?_
   have:=List.all_eq_true.1 hk o ho
   rw[Nat.zero_add] at hj
   rw[e] at this
   simp only[hj] at this
   cases this
 obtain⟨e,mG,ry,ι'',rB,rC,m1,m2,m3,m4,m5,m6⟩:=h2 s e3 ι ay S Le hB
 refine⟨e,mG,ry,ι'',rB,rC,?_,m2,m3,m4,m5,m6⟩
 have:bC P ty aD call yf LL fn fC (.region id ops true) env S=some (.normal,ay,S):=by
  simp only[qM,Bool.or_eq_false_iff] at hl; simp only[bC,lP,if_true,hd,hl.2,Bool.not_true,Bool.false_eq_true,if_false,k1,Option.map_some]
 rw[bC,this]
 exact m1
theorem jb (hT:oI T aD call) (hI:vX call T inl) {J:List (Nat×LA)}:∀ (c:Code) (i lv:Nat) (te:List TV) (tS:List TB) (Q:DX→List TV→List TB→Prop),sQ P ty tt T inl B J c i lv te tS Q→WT P ty aD call yf B LL fn fC c te tS Q
 | .skip,_,_,_,_,_,h=>QO h
 | .label _,_,_,_,_,_,h=>NB h
 | .exit _,_,_,_,_,_,h=>QU h
 | .ret,_,_,_,_,_,h=>Wl h
 | .scope c,i,lv,te,tS,Q,h=>Nx (jb hT hI c i lv te tS Q h)
 | .block id c,i,lv,te,tS,Q,h=>by
  refine ND ((jb hT hI c i lv te tS _ h).mono fun e te tS hq => ?_)
  cases e with
  | normal=>exact hq
  | ret=>exact hq
  | exit gE =>
   dsimp only at hq ⊢
   split<;>simp_all
 | .cond x a b,i,lv,te,tS,Q,h=>by
  simp only[sQ] at h
  split at h
  ·rename_i t hx
   obtain⟨h1,h2⟩:=qd h
   refine QV hx (fun e => ?_) (fun e => ?_)
   ·subst e; exact jb hT hI a i lv te tS Q (Es hx (h1 rfl))
   ·subst e; exact jb hT hI b (i+cnt a) lv te tS Q (Es hx (h2 rfl))
  ·exact h.elim
 | .seq a b,i,lv,te,tS,Q,h=>by
  simp only[sQ] at h
  split at h
  ·rename_i la _
   split at h
   ·rename_i ops hq
    obtain⟨h1,h2⟩:=h
    obtain⟨hl,id,rfl⟩:=J6 hq
    obtain⟨h0,h1⟩:=ki h1
    simp only[Bool.and_eq_true] at h0
    refine Nz (la:=la) h0.1 hl h0.2 ?_ fun s hg=>jb hT hI b _ lv _ _ Q (b9 _ (jl (HV h2 s) hg))
    exact yd (B:=B) (md:=1) (n0:=0) (oq:=tS) (Q:=fun bT _=>la.some fun bd=>ask (qO bd.sl 0 bT) (xT bd.dX True)) hT hI (by omega) (fun bT bV fs hk _=>MQ (Nat.le_refl _) hk) ops.toList 0 te _ [] rfl h1 rfl
   obtain⟨h1,h2⟩:=h
   refine QT (fun s:la.St=>(j6 (la.bd s).sl ((lv ||| kM b) &&& (2 ^ 400-1-(defs a))) 0 te,tn (la.bd s) tS)) (fun s=>cF (la.bd s).dX) ((jb hT hI a (i+1) (lv ||| kM b) te tS _ h1).mono fun e bT bV hq => ?_) fun s hg=>jb hT hI b (i+1+cnt a) lv _ _ Q (cL _ (b9 _ (jl (HV h2 s) hg)))
   cases e with
   | normal =>
    obtain⟨s,hs⟩:=tJ hq
    obtain⟨k1,k2,-⟩:=xD hs
    exact⟨s,k1,k2⟩
   | exit id=>exact hq
   | ret=>exact hq
  ·refine MP ((jb hT hI a (i+1) (lv ||| kM b) te tS _ h).mono fun e te tS hq => ?_)
   cases e with
   | normal=>exact jb hT hI b _ _ te tS Q hq
   | exit id=>exact hq
   | ret=>exact hq
 | .loop c,i,lv,te,tS,Q,h=>by
  simp only[sQ] at h
  split at h
  ·rename_i la _
   have hF:∀ te tS (K':List TV→List TB→Prop),sQ P ty tt T inl B J c (i+1) (lv ||| kM c) te tS (fun e te tS=>match e with
    | .normal=>K' te tS
    | .exit id=>Q (.exit id) te tS
    | .ret=>Q .ret te tS)→WT P ty aD call yf B LL fn fC c te tS fun e te tS=>match e with | .normal=>K' te tS | e=>Q e te tS:=fun te tS K' hf=>(jb hT hI c _ _ te tS _ hf).mono fun e te tS hq=>by
     cases e with
     | normal=>exact hq
     | exit id=>exact hq
     | ret=>exact hq
   refine Jy (n:=1000000+min la.TJ 1000) (by unfold LL; omega) (Mc hF (fun te tS h => ?_) _ te tS h)
   generalize la.inner.at te tS=la at h
   split at h
   ·exact Q0 (by omega) (Mc (N:=0) hF (fun _ _ h=>h.elim) _ te tS h)
   ·obtain⟨h1,h2⟩:=h
    obtain⟨s0,h1⟩:=tJ h1
    obtain⟨k1,k2,k3⟩:=OZ h1
    refine Q1 (fun s:la.St=>(j6 (la.bd s).sl ((lv ||| kM c) &&& (2 ^ 400-1-(defs c))) 0 te,tn (la.bd s) tS)) (fun s=>cF (la.bd s).dX) (fun s=>(la.bd s).m) s0 k1 k2 k3 fun s hg=>(jb hT hI c (i+1) (lv ||| kM c) _ _ _ (cL _ (b9 _ (jl (HV h2 s) hg)))).mono fun e bT bV hq => ?_
    cases e with
    | normal =>
     obtain⟨s',hs⟩:=tJ hq
     obtain⟨k1,k2,k3⟩:=xD hs
     exact⟨s',k1,k2,k3⟩
    | exit id=>exact hq
    | ret=>exact hq
  ·exact h.elim
 | .region id ops draw,i,lv,te,tS,Q,h=>Jz hT hI h
 | .rangeFunc ..,_,_,_,_,_,h=>(by simp only[sQ] at h)
 | .goto _,_,_,_,_,_,h=>(by simp only[sQ] at h)
 | .refuse _,_,_,_,_,_,h=>(by simp only[sQ] at h)
theorem xl {K K':TV→List TV→List Prop→Prop} (hK:∀ v cs f,K v cs f→K' v cs f):∀ {s:q9},s.some K→s.some K'
 | .ex _ k,⟨x,h⟩=>⟨x,xl (s:=k x) hK h⟩
 | .res _ _ _,h=>hK _ _ _ h
theorem Ib {F:List TV→List TB→Prop} {E:DX→List TV→List TB→Prop} (h1:∀ te tS,F te tS→E .normal te tS∧E .ret te tS):∀ {e:DX} {te:List TV} {tS:List TB},Jv F e te tS→E e te tS
 | .normal,_,_,h=>(h1 _ _ h).1
 | .ret,_,_,h=>(h1 _ _ h).2
 | .exit _,_,_,h=>h.elim
theorem Ur {rs:List ResultVar} {jV:List (Option TT)} {s:q9} (h:QB ty rs jV s te tS):V7 ty rs jV (fun v=>s.rM v) .normal te tS∧V7 ty rs jV (fun v=>s.rM v) .ret te tS:=by
 unfold QB at h
 split at h
 ·rename_i vs hv
  have h:=b9 (s5 tS vs) (K:=fun vs=>aM (vs.all eC&&(refs (iJ (aX jV vs))).isEmpty) (s.some fun v _ facts=>ask (U3 (iJ (aX jV vs)) v) (cF facts)) False) h
  obtain⟨h0,h⟩:=ki h
  simp only[Bool.and_eq_true,List.isEmpty_iff] at h0
  have:∃ vs,xL ty te tS rs=some vs∧(s5 tS vs).all eC=true∧refs (iJ (aX jV (s5 tS vs)))=[]∧s.rM (iJ (aX jV (s5 tS vs))):=by
   refine⟨vs,hv,h0.1,h0.2,xl (fun v cs f hk => ?_) h⟩
   obtain⟨l,h1,h2,h3⟩:=iX hk
   exact⟨Ck h1 h2,h3⟩
  exact⟨⟨trivial,this⟩,trivial,this⟩
 ·exact h.elim
theorem aaI {rs:List ResultVar} {jV mq:List (Option TT)} {s:q9} (h:VT ty rs jV mq s te tS):Mb ty rs jV mq (fun v cs=>s.holds v cs) .normal te tS∧Mb ty rs jV mq (fun v cs=>s.holds v cs) .ret te tS:=by
 unfold VT at h
 split at h
 ·rename_i vs ts l hv
  obtain⟨h0,h⟩:=ki h
  simp only[Bool.and_eq_true,List.isEmpty_iff] at h0
  have:s.holds (iJ (aX jV vs)) (aX mq ts):=by
   refine xl (fun v cs f hk => ?_) h
   obtain⟨l,h1,h2,hk⟩:=iX hk
   obtain⟨l',h3,h4,h5⟩:=iX hk
   exact⟨Ck h1 h2,rR h3 h4,h5⟩
  exact⟨⟨trivial,vs,ts,hv,h0.1.1,h0.1.2,rfl,h0.2.1,h0.2.2,this⟩,trivial,vs,ts,hv,h0.1.1,h0.1.2,rfl,h0.2.1,h0.2.2,this⟩
 ·exact h.elim
theorem aaH {rs:List ResultVar} {mq:List (Option TT)} {s:q9} (h:VS ty rs mq s te tS):V6 ty rs mq (fun cs=>s.uU cs) .normal te tS∧V6 ty rs mq (fun cs=>s.uU cs) .ret te tS:=by
 unfold VS at h
 split at h
 ·rename_i ts l hv
  obtain⟨h0,h⟩:=ki h
  simp only[Bool.and_eq_true,List.isEmpty_iff] at h0
  have:s.uU (aX mq ts):=by
   refine xl (fun v cs f hk => ?_) h
   obtain⟨l',h3,h4,h5⟩:=iX hk
   exact⟨rR h3 h4,h5⟩
  exact⟨⟨trivial,ts,hv,rfl,h0.1,h0.2,this⟩,trivial,ts,hv,rfl,h0.1,h0.2,this⟩
 ·exact h.elim
theorem W7:∀ {vs:List TV} {ds:List DV},cA ι S vs ds→RT ι S (iJ vs) (oneOf ds)
 | [],ds,h=>by rw[aJ h]; simp only[iJ,oneOf,RT]; exact bJ
 | [v],ds,h=>by
  obtain⟨d,m',rfl,h1,h2⟩:=aj h
  rw[aJ h2]; exact h1
 | v::u::l,ds,h=>by
  obtain⟨d,m',rfl,h1,h2⟩:=aj h
  obtain⟨d',m'',rfl,h3,h4⟩:=aj h2
  simp only[iJ,oneOf,RT]
  exact aG h1 (aG h3 h4)
def XOK (P:Program) (T:gN):Prop:=∀ g fn j,T.X g=some (fn,j)→P.funcs[g]? = some fn∧fn.body.isSome=true
def Lev (P:Program) (ty:eV) (T:gN):Nat→bn→aW→Prop
 | 0,aD,call=>oI T aD call
 | d+1,aD,call=>oI T aD call∧∃ Vo MK yf',(∀ g fn,P.funcs[g]? = some fn→∀ a S,call g a S=qQ P ty Vo MK yf' LL g fn a S)∧Lev P ty T d Vo MK
theorem nI {d:Nat} (h:Lev P ty T d aD call):oI T aD call:=by
 cases d with
 | zero=>exact h
 | succ d=>exact h.1
theorem rK (hX:XOK P T):∀ (d:Nat) {aD:bn} {call:aW},Lev P ty T d aD call→vX call T (Dz P ty tt T d)
 | 0,_,_,_=>fun _ _ _ _ _ _ _ h=>h.elim
 | d+1,aD,call,hL=>by
  obtain⟨-,Vo,MK,yf',hb,P8⟩:=hL
  intro g fn j A tS K hx hi ι cn S hR
  obtain⟨hf,hs⟩:=hX g fn j hx
  have hw:=jb (fn:=g) (fC:=false) (yf:=yf') (nI P8) (rK hX d P8) _ _ _ _ _ _ (b9 _ hi)
  have hlen:=ff hR.env
  have jQ:bK ι (Jo fn.ntmps A) tS (cn++List.replicate (fn.ntmps-cn.length) aP) S :=
   ⟨dA hR.env (by rw[hlen]; exact pV _ _),hR.cells,hR.own,hR.uE,hR.inj,hR.mp⟩
  obtain⟨e,ay,S',ι',bT,bV,h1,h2,h3,h4,h5,h6⟩:=hw ι _ S jQ Xg
  have key:VR ty fn.results.toList K bT bV→(e = .normal∨e = .ret)→∃ d S' ι' v bV,call g cn S=some (d,S')∧bK ι' [v] bV [d] S'∧lY (en 0 tS) bV∧Fr (en 0 tS) ι S ι' S'∧Nn S.length S S'∧K v bV:=by
   intro hk he
   unfold VR at hk
   split at hk
   ·rename_i vs hv
    obtain⟨ds,k1,k2⟩:=pY h2 hv
    refine⟨oneOf ds,S',ι',iJ vs,bV,?_,⟨di (W7 k2),h2.cells,h2.own,h2.uE,h2.inj,h2.mp⟩,h3,h4,h5,hk⟩
    rw[hb g fn hf]
    unfold vW at h1
    simp only[qQ]
    cases hc:fn.body with
    | none=>rw[hc] at hs; cases hs
    | some c =>
     rw[hc] at h1
     simp only[Option.getD_some] at h1
     simp only[h1]
     rcases he with rfl | rfl<;>simp only[k1,Option.map_some]
   ·exact hk.elim
  cases e with
  | normal=>exact key h6 (.inl rfl)
  | ret=>exact key h6 (.inr rfl)
  | exit id=>exact h6.elim
def vcI (T:gN) (d:Nat) (f:Func) (jV:List (Option TT)) (J:List (Nat×LA)) (a:List TV) (s:q9):Prop:=cS (Jo f.ntmps a) fun te=>sQ Tp Ty KU T (Dz Tp Ty KU T d) [] J (vW f) 0 (xq f.results.toList) te [] (Jv (QB Ty f.results.toList jV s))
def Za (T:gN) (d:Nat) (f:Func) (jV mq:List (Option TT)) (J:List (Nat×LA)) (a cs:List TV) (s:q9):Prop:=cS (Jo f.ntmps a) fun te=>sQ Tp Ty KU T (Dz Tp Ty KU T d) [0] J (vW f) 0 (xq f.results.toList) te [.cells cs] (Jv (VT Ty f.results.toList jV mq s))
def vcN (T:gN) (d:Nat) (f:Func) (mq:List (Option TT)) (J:List (Nat×LA)) (a:List TV) (s:q9):Prop:=cS (Jo f.ntmps a) fun te=>sQ Tp Ty KU T (Dz Tp Ty KU T d) [] J (vW f) 0 (xq f.results.toList) te [] (Jv (VS Ty f.results.toList mq s))
def lE (aZ:bn) (k:Nat) (T:gN):Prop:=XOK Tp T∧∀ n,oI T (rE aZ (n+k)) (jT aZ (n+k))
def gN.fR (T:gN) (f:FuncId) (S:List TV→Sp):gN:={ T with I:=fun g a=>if g=f then S a else T.I g a }
def gN.mD (T:gN) (f:FuncId) (S:List TV→List TV→Sp):gN:={ T with C:=fun g a c=>if g=f then S a c else T.C g a c }
def gN.QJ (T:gN) (f:FuncId) (S:List TV→Sp):gN:={ T with N:=fun g a=>if g=f then S a else T.N g a }
def gN.V1 (T:gN) (f:FuncId) (fn:Func) (j:List (Nat×LA)):gN:={ T with X:=fun g=>if g=f then some (fn,j) else T.X g }
variable {aZ:bn} {k:Nat}
theorem gU (h:lE aZ k T):lE aZ (k+1) T:=⟨h.1,fun n=>by have:=h.2 (n+1); rwa [Nat.add_right_comm,Nat.add_assoc] at this⟩
theorem lS (h:lE aZ k T):∀ (d n:Nat),Lev Tp Ty T d (rE aZ (n+(k+d))) (jT aZ (n+(k+d)))
 | 0,n=>h.2 n
 | d+1,n=>by
  refine⟨?_,rE aZ (n+(k+d)),jT aZ (n+(k+d)),SJ aZ (n+(k+d)),fun g fn hf a S => ?_,lS h d n⟩
  ·have:=h.2 (n+(d+1)); rwa [Nat.add_assoc,Nat.add_comm (d+1) k] at this
  ·rw[show n+(k+(d+1))=(n+(k+d))+1 by omega]
   simp only[vV,cG,hf]
   rfl
theorem Md {f:FuncId} {S:List TV→Sp} (hT:lE aZ k T) (h:∀ n a p s,S a=some (p,s)→cF p→oM (rE aZ (n+k)) f a fun v=>s.rM v):lE aZ k (T.fR f S):=⟨hT.1,fun n=>⟨fun g a p s hs hp=>by
 simp only[gN.fR] at hs
 split at hs
 ·rename_i e; subst e; exact h n a p s hs hp
 ·exact(hT.2 n).I g a p s hs hp,(hT.2 n).C,(hT.2 n).N⟩⟩
theorem Z4 {f:FuncId} {S:List TV→List TV→Sp} (hT:lE aZ k T) (h:∀ n a cs p s,S a cs=some (p,s)→cF p→vY (jT aZ (n+k)) f a cs fun v cs=>s.holds v cs):lE aZ k (T.mD f S):=⟨hT.1,fun n=>⟨(hT.2 n).I,fun g a cs p s hs hp=>by
 simp only[gN.mD] at hs
 split at hs
 ·rename_i e; subst e; exact h n a cs p s hs hp
 ·exact(hT.2 n).C g a cs p s hs hp,(hT.2 n).N⟩⟩
theorem Z3 {f:FuncId} {S:List TV→Sp} (hT:lE aZ k T) (h:∀ n a p s,S a=some (p,s)→cF p→x9 (rE aZ (n+k)) (jT aZ (n+k)) f a fun cs=>s.uU cs):lE aZ k (T.QJ f S):=⟨hT.1,fun n=>⟨(hT.2 n).I,(hT.2 n).C,fun g a p s hs hp=>by
 simp only[gN.QJ] at hs
 split at hs
 ·rename_i e; subst e; exact h n a p s hs hp
 ·exact(hT.2 n).N g a p s hs hp⟩⟩
theorem Z2 {f:FuncId} {fn:Func} {j:List (Nat×LA)} (hT:lE aZ k T) (hf:Tp.funcs[f]? = some fn) (hb:fn.body.isSome=true):lE aZ k (T.V1 f fn j):=⟨fun g sN j' hx=>by
 simp only[gN.V1] at hx
 split at hx
 ·rename_i e; subst e; cases hx; exact⟨hf,hb⟩
 ·exact hT.1 g sN j' hx,fun n=>⟨(hT.2 n).I,(hT.2 n).C,(hT.2 n).N⟩⟩
def T0:gN where
 I:=fun g a=>match g,a with
  | 12,[]=>some ([],.res (nu true) [] [])
  | _,_=>none
 C:=fun _ _ _=>none
 N:=fun _ _=>none
theorem iM (tk:oF aZ):lE aZ 0 T0:=by
 refine⟨fun _ _ _ h=>(by cases h),fun n=>⟨fun g a p s hs _ => ?_,fun _ _ _ _ _ hs=>(by cases hs),fun _ _ _ _ hs=>(by cases hs)⟩⟩
 simp only[T0] at hs
 split at hs
 ·cases hs
  intro cn hd
  rw[aJ hd]
  refine⟨.val (.bool true),nu true,?_,rfl,by simp only[RT],rfl,rfl,trivial⟩
  simp only[xM,je,tk.fit,DV.pure,DV.gP,if_true]
 ·cases hs
end Go.Tv
end
