import Derived.Test.YtedcgbkilmlbhaaGreatPk07
section
namespace Go.Tv
open Go Go.Di Go.Proofs
variable {P:Program} {ty:eY} {tt:TypeId→Option TT} {T:gh} {ι ι' w:jE} {S S':ak} {te j6:List TV} {env:List DV} {tS gT:List TB} {aC:bk} {call:aW} {yf:dR} {o:Oper} {ay nT:Nat} {B:List Nat} {r:TR} {ops:Array Oper} {L:Nat} {fn:FuncId} {fF:Bool} {fs:List cu}
theorem PR {md:Nat} (h:md≤2):md=0∨md=1∨md=2:=by omega
theorem Pb {α β:Type} {x:Option α} {f:α→β} {q:β×Prop} (h:x.map (fun a=>(f a,True))=some q):q.2:=by
 simp only[Option.map_eq_some_iff] at h
 obtain⟨_,_,rfl⟩:=h
 trivial
theorem EZ {q:TV×Prop} (hc:vq o=false) (h:aZ P ty tt te tS o=some q):q.2:=by
 unfold vq at hc
 unfold aZ at h
 cases ho:o.op
 all_goals simp only[ho] at hc h
 all_goals try (cases hc; done)
 all_goals repeat' (split at h)
 all_goals first
  | (cases h; done)
  | (cases h; trivial)
  | exact Pb h
  | (simp only[Option.map_eq_some_iff] at h; obtain⟨_,_,rfl⟩:=h; trivial)
theorem O7 {q:TR} (hc:vq o=false) (h:stepT P ty tt te tS o nT=some q):q.c:=by
 have hp:∀ {q:TR},((aZ P ty tt te tS o).map fun r=>(⟨r.1,te,tS,rT te o,r.2⟩:TR))=some q→q.c:=by
  intro q h
  simp only[Option.map_eq_some_iff] at h
  obtain⟨a,h1,rfl⟩:=h
  exact EZ hc h1
 unfold stepT at h
 split at h
 ·split at h
  ·cases h; trivial
  ·cases h
 ·split at h
  ·split at h
   ·cases h; trivial
   ·cases h
  ·cases h
 ·split at h
  ·split at h
   ·split at h
    ·simp only[Option.map_eq_some_iff] at h
     obtain⟨_,_,rfl⟩:=h
     trivial
    ·cases h
   ·cases h
  ·cases h
 ·rename_i ho
  simp only[vq,ho] at hc
  cases hc
 ·exact hp h
def Nb (o:Oper):Prop:=(∃ op t x y u,o.op = .binOp op t x y u)∨∃ op t x,o.op = .unOp op t x
theorem uC {v:TV} (hb:Nb o) (h:aZ P ty tt te tS o=some (v,True)):stepT P ty tt te tS o nT=some ⟨v,te,tS,[],True⟩:=by
 rcases hb with ⟨op,t,x,y,u,ho⟩ | ⟨op,t,x,ho⟩<;>simp only[stepT,ho,h,Option.map_some,rT]
theorem Lx {v:TV} {c:Prop} (h:yJ te o=some (v,c)):Nb o:=by
 unfold yJ at h
 split at h
 ·rename_i ho; exact .inl ⟨_,_,_,_,_,ho⟩
 ·rename_i ho; exact .inl ⟨_,_,_,_,_,ho⟩
 ·rename_i ho; exact .inl ⟨_,_,_,_,_,ho⟩
 ·rename_i ho; exact .inr ⟨_,_,_,ho⟩
 ·cases h
theorem SX {b:Bool} (h:MH P te o=some b):Nb o:=by
 unfold MH at h
 split at h
 ·rename_i ho; exact .inl ⟨_,_,_,_,_,ho⟩
 ·rename_i ho; exact .inl ⟨_,_,_,_,_,ho⟩
 ·cases h
theorem XT (hb:Nb o):kQ o=false:=by
 rcases hb with ⟨op,t,x,y,u,ho⟩ | ⟨op,t,x,ho⟩<;>simp only[kQ,ho]
theorem PG {g:FuncId} {targs:List TV} (h:Nj tt te o=some (g,targs)):∃ f args argTypes fs cs xs,o.op = .call { callee := .value f,args,argTypes }∧fG te f=some (.fn g fs cs)∧lP te args.toList=some xs∧(fs++xs++cs).all eL=true∧aX (gy tt fs argTypes) (fs++xs++cs)=targs:=by
 unfold Nj at h
 split at h
 ·rename_i f args argTypes ho
  split at h
  ·rename_i g' fs cs xs h1 h2
   split at h
   ·rename_i h3
    cases h
    exact⟨f,args,argTypes,fs,cs,xs,ho,h1,h2,h3,rfl⟩
   ·cases h
  ·cases h
 ·cases h
theorem KY {g:FuncId} {kp:Nat} {targs ts:List TV} (h:GH tt te tS o=some (g,kp,targs,ts)):∃ f args argTypes fs cs xs,o.op = .call { callee := .value f,args,argTypes }∧fG te f=some (.fn g fs cs)∧lP te args.toList=some xs∧tI kp (gy tt fs argTypes) (fs++xs++cs)=some targs∧(fs++xs++cs).any isRef=true∧tS[kp]? = some (.cells ts)∧gn ts=[]:=by
 unfold GH at h
 split at h
 ·rename_i f args argTypes ho
  split at h
  ·rename_i g' fs cs xs h1 h2
   split at h
   ·split at h
    ·rename_i h4 h5
     split at h
     ·rename_i h6
      simp only[Bool.and_eq_true,List.isEmpty_iff] at h6
      cases h
      exact⟨f,args,argTypes,fs,cs,xs,ho,h1,h2,h4,h6.1,h5,h6.2⟩
     ·cases h
    ·cases h
   ·cases h
  ·cases h
 ·cases h
theorem KZ {g:FuncId} {kp:Nat} {targs ts:List TV} (h:GI tt te tS o=some (g,kp,targs,ts)):∃ f args argTypes fs cs xs off rest,o.op = .call { callee := .value f,args,argTypes }∧fG te f=some (.fn g fs cs)∧lP te args.toList=some xs∧fs++xs++cs = .ptr kp off::rest∧rest.all eL=true∧tS[kp]? = some (.cells ts)∧ts.all tF=true∧targs = .ptr 0 off::aX (gy tt fs argTypes).tail rest:=by
 unfold GI at h
 split at h
 ·rename_i f args argTypes ho
  split at h
  ·rename_i g' fs cs xs h1 h2
   split at h
   ·rename_i kp' off rest hl
    split at h
    ·rename_i qG h5
     split at h
     ·rename_i h6
      simp only[Bool.and_eq_true] at h6
      cases h
      exact⟨f,args,argTypes,fs,cs,xs,off,rest,ho,h1,h2,hl,h6.1,h5,h6.2,rfl⟩
     ·cases h
    ·cases h
   ·cases h
  ·cases h
 ·cases h
theorem Fb {md:Nat} {v:TV} {cs:List TV} {K:Prop} (h:Ei md v cs K):(md=2→Iz v=true∧cs.all tF=true)∧K:=by
 unfold Ei at h
 split at h
 ·split at h
  ·rename_i h1
   simp only[Bool.and_eq_true] at h1
   exact⟨fun _=>h1,h⟩
  ·exact h.elim
 ·rename_i hn
  exact⟨fun e=>(hn e).elim,h⟩
theorem pN {k:Nat}:∀ {tS:List TB} {i:Nat},k∈ey i tS↔i≤k∧∃ c,tS[k-i]? = some (.cells c)
 | [],i=>by simp[ey]
 | b::l,i=>by
  have ih:=pN (k:=k) (tS:=l) (i:=i+1)
  have hs:∀ (c:List TV),i+1≤k→((b::l)[k-i]? = some (.cells c)↔l[k-(i+1)]? = some (.cells c)):=fun c h=>by
   rw[show k-i=(k-(i+1))+1 by omega,List.getElem?_cons_succ]
  cases b with
  | cells c0 =>
   simp only[ey,List.mem_cons,ih]
   constructor
   ·rintro(rfl | ⟨h1,c,h2⟩)
    ·exact⟨Nat.le_refl _,c0,by simp⟩
    ·exact⟨by omega,c,(hs c h1).2 h2⟩
   ·rintro⟨h1,c,h2⟩
    by_cases e:k=i
    ·exact .inl e
    ·exact .inr ⟨by omega,c,(hs c (by omega)).1 h2⟩
  | none =>
   simp only[ey,ih]
   constructor
   ·rintro⟨h1,c,h2⟩; exact⟨by omega,c,(hs c h1).2 h2⟩
   ·rintro⟨h1,c,h2⟩
    by_cases e:k=i
    ·subst e; simp at h2
    ·exact⟨by omega,c,(hs c (by omega)).1 h2⟩
  | map kt0 c0 =>
   simp only[ey,ih]
   constructor
   ·rintro⟨h1,c,h2⟩; exact⟨by omega,c,(hs c h1).2 h2⟩
   ·rintro⟨h1,c,h2⟩
    by_cases e:k=i
    ·subst e; simp at h2
    ·exact⟨by omega,c,(hs c (by omega)).1 h2⟩
  | rows t0 e0 c0 z0 =>
   simp only[ey,ih]
   constructor
   ·rintro⟨h1,c,h2⟩; exact⟨by omega,c,(hs c h1).2 h2⟩
   ·rintro⟨h1,c,h2⟩
    by_cases e:k=i
    ·subst e; simp at h2
    ·exact⟨by omega,c,(hs c (by omega)).1 h2⟩
  | own e0 s0 =>
   simp only[ey,ih]
   constructor
   ·rintro⟨h1,c,h2⟩; exact⟨by omega,c,(hs c h1).2 h2⟩
   ·rintro⟨h1,c,h2⟩
    by_cases e:k=i
    ·subst e; simp at h2
    ·exact⟨by omega,c,(hs c (by omega)).1 h2⟩
theorem E8 {k:Nat} {c:List TV} (h:tS[k]? = some (.cells c)):k∈ey 0 tS:=pN.2 ⟨Nat.zero_le _,c,h⟩
theorem XA:mo (ey 0 tS) tS:=fun _ hk=>(pN.1 hk).2
mutual
theorem RY (hi:∀ k,xT tS k=true→ι' k=ι k):∀ (v:TV) (d:DV),RT ι S v d→RT ι' S' (ku tS v) d
 | .unk,_,_=>by simp only[ku,RT]
 | .val _,d,k=>by cases d<;>simp only[RT,ku] at k ⊢; exact k
 | .eu,d,k=>by cases d<;>simp only[RT,ku] at k ⊢; exact k
 | .agg l,d,k=>by cases d<;>simp only[RT,ku] at k ⊢; exact kM hi l _ k
 | .ep l,d,k=>by cases d<;>simp only[RT,ku] at k ⊢; exact kM hi l _ k
 | .sl t l .no,d,k=>by cases d<;>simp only[RT,ku] at k ⊢; exact k
 | .sl t l .full,d,k=>by cases d<;>simp only[RT,ku] at k ⊢; exact k
 | .sl t l (.oC g),d,k=>by cases d<;>simp only[RT,ku] at k ⊢; exact⟨k.1,trivial⟩
 | .ptr id off,d,k=>by
  cases d<;>simp only[RT] at k
  simp only[ku]
  split
  ·rename_i hc
   simp only[RT]
   exact⟨(hi _ hc).trans k.1,k.2⟩
  ·simp only[RT]
 | .cV t l i off,d,k=>by cases d<;>simp only[RT,ku] at k ⊢; exact k
 | .mp id,d,_=>by simp only[RT,ku]
 | .so g t,d,_=>by simp only[RT,ku]
 | .sp g t i off,d,_=>by simp only[RT,ku]
 | .fn f a b,d,k=>by cases d<;>simp only[RT,ku] at k ⊢; exact⟨k.1,kM hi a _ k.2.1,kM hi b _ k.2.2⟩
theorem kM (hi:∀ k,xT tS k=true→ι' k=ι k):∀ (l:List TV) (m:List DV),cq ι S l m→cq ι' S' (mO tS l) m
 | [],m,k=>by rw[aF k]; simp only[mO]; exact bI
 | a::l,m,k=>by
  obtain⟨d,m',rfl,h1,h2⟩:=ai k
  simp only[mO]
  exact aD (RY hi a d h1) (kM hi l m' h2)
end
def JH (call:aW) (g:FuncId) (A:List TV) (tS:List TB) (K:TV→List TB→Prop):Prop :=
 ∀ ι bY S,bL ι A tS bY S→∃ d S' ι' v bV,call g bY S=some (d,S')∧bL ι' [v] bV [d] S'∧mo (ey 0 tS) bV∧Fr (ey 0 tS) ι S ι' S'∧Nn S.length S S'∧K v bV
theorem Py {f:Operand} {args:Array Operand} {argTypes:Array TypeId} {g:FuncId} {fs cs xs:List TV} {K:TV→List TB→Prop} (hop:o.op = .call { callee := .value f,args,argTypes }) (hf:fG te f=some (.fn g fs cs)) (ha:lP te args.toList=some xs) (hr:(fs++xs++cs).any isRef=true∨ty.h o=1)
  (hc:JH call g (fs++xs++cs) tS K):Does P ty aC call yf B o nT te tS false fun v bS bV _=>bS=mO tS te∧K v bV:=by
 intro ι w env S ay hR hB hw hT PZ hS
 obtain⟨x5,gL,JI,k1,k2,k3⟩:=jB hR.env hf ha
 obtain⟨d,S',ι',v,bV,m1,m2,m3,m4,m5,m6⟩:=hc ι _ S ⟨k3,hR.cells,hR.own,hR.uP,hR.inj,hR.mp⟩
 obtain⟨w',YL⟩:=Gs m2
 obtain⟨_,_,e,m7,-⟩:=ai m2.env
 cases e
 have ZE:∀ k,k∈B→k∈ey 0 tS:=fun k hk=>by obtain⟨l,h1⟩:=hB k hk; exact E8 h1
 refine⟨d,S',ι',w',v,mO tS te,bV,⟨none,true⟩,⟨none,true⟩,fun _ => ?_,fun e=>(by cases e),⟨fun e=>e,fun l hl=>(by cases hl)⟩,fun l m hl=>(by cases hl),⟨kM (fun k hk => ?_) _ _ hR.env,m2.cells,m2.own,m2.uP,m2.inj,m2.mp⟩,m7,YL,fun e=>(by cases e),⟨m4.rest,m4.ours,fun k hk=>m4.base k (ZE k hk)⟩,fun k hk=>m3 k (ZE k hk),⟨m5.1,fun j hj ee=>m5.2 j (by have:=(List.getElem?_eq_some_iff.1 ee).1; omega) ee⟩,rfl,m6⟩
 ·rcases hr with hr | hr
  ·have:=sC hr k3
   simp only[ah,hop,k1,k2,tH,this,Bool.false_eq_true,if_false,m1]
   split<;>rfl
  ·simp only[ah,hop,k1,k2,hr,m1]
 ·unfold xT at hk
  split at hk
  ·rename_i c hc; exact m4.base k (E8 hc)
  ·cases hk
theorem SE {md:Nat} {A:List TV} {fn:Func} {j:List (Nat×LA)} (h:VH ty T md te o=some (A,fn,j)):md=0∧∃ f args argTypes g fs cs xs,o.op = .call { callee := .value f,args,argTypes }∧fG te f=some (.fn g fs cs)∧lP te args.toList=some xs∧((fs++xs++cs).any isRef=true∨ty.h o=1)∧A=fs++xs++cs∧T.X g=some (fn,j):=by
 unfold VH at h
 split at h
 ·split at h
  ·rename_i g A' h1
   split at h
   ·rename_i sW j' h2
    cases h
    unfold Zy at h1
    split at h1
    ·rename_i f args argTypes ho
     split at h1
     ·rename_i g' fs cs xs e1 e2
      split at h1
      ·rename_i hr
       cases h1
       exact⟨rfl,f,args,argTypes,g,fs,cs,xs,ho,e1,e2,by simpa using hr,rfl,h2⟩
      ·cases h1
     ·cases h1
    ·cases h1
   ·cases h
  ·cases h
 ·cases h
theorem mW {b:Bool} {c:Prop} (h:VD ty te o=some (b,c)) (hc:c):(∃ op t x y u,o.op = .binOp op t x y u)∧∀ {env:List DV},cq ι S te env→∀ ay,ah P ty aC call yf (ga env) o S ay=some (.val (.bool b),S):=by
 unfold VD at h
 split at h
 ·rename_i t x y _ ho
  refine⟨⟨_,_,_,_,_,ho⟩,fun {env} hE ay => ?_⟩
  split at h
  ·rename_i h1 h2 h3
   cases h
   obtain⟨d1,k1,k2⟩:=aS hE h2
   obtain⟨d2,k3,k4⟩:=aS hE h3
   cases d1<;>simp only[RT] at k2
   cases d2<;>simp only[RT] at k4
   obtain⟨rfl,rfl,rfl⟩:=k4
   rename_i rows tok f
   have hr:rows.isEmpty=false:=by
    have:=ja k2.1
    cases rows with
    | nil=>exact absurd (List.eq_nil_of_length_eq_zero (by simpa using this.symm)) hc
    | cons=>rfl
   simp only[ah,ho,valOf,k1,k3,Option.bind_some,we,yC,h1,Gj,hr,Bool.false_eq_true,if_false,Option.map_some]
  ·rename_i h1 h2 h3
   cases h
   obtain⟨d1,k1,k2⟩:=aS hE h2
   obtain⟨d2,k3,k4⟩:=aS hE h3
   cases d1<;>simp only[RT] at k2
   cases d2<;>simp only[RT] at k4
   obtain⟨rfl,rfl,rfl⟩:=k4
   obtain⟨rfl,rfl,rfl⟩:=k2
   simp only[ah,ho,valOf,k1,k3,Option.bind_some,we,yC,h1,Gj,List.isEmpty_nil,if_true,Option.map_some]
  ·cases h
 ·cases h
theorem Fe {b:Value} (hb:∃ op t x y u,o.op = .binOp op t x y u) (h:∀ {ι:jE} {S:ak} {env:List DV},cq ι S te env→∀ ay,ah P ty aC call yf (ga env) o S ay=some (.val b,S)) (dr:Bool):Does P ty aC call yf B o nT te tS dr fun v bS bV ft=>v = .val b∧bS=te∧bV=tS∧ft=⟨some [],false⟩:=by
 intro ι w env S ay hR hB hw hT hn hS
 obtain⟨op,t,x,y,u,ho⟩:=hb
 refine⟨.val b,S,ι,w,.val b,te,tS,⟨some [],false⟩,⟨some [],false⟩,fun _=>h hR.env ay,fun _ => ?_,⟨id,fun l hl=>⟨[],rfl,fun j hj=>(by cases hj)⟩⟩,fun l m _ hm j hj=>(by cases hm; cases hj),hR,by simp only[RT],hw,fun _ _ _=>rfl,Fr.refl _ _ _,hB,ew _ _,rfl,rfl,rfl,rfl⟩
 have:=h hR.env ay
 simp only[aB,ho]
 rw[this]; rfl
theorem WC {k:Nat} {b:Value} {Q:List TV→Prop} (ho:ops[k]? = some o) (hw:dh ops te o=some true) (hb:∃ op t x y u,o.op = .binOp op t x y u) (h:∀ {ι:jE} {S:ak} {env:List DV},cq ι S te env→∀ ay,ah P ty aC call yf (ga env) o S ay=some (.val b,S)) (hq:WQ P ty aC call yf ops tS (k+1) (j9 te o.dst (.val b)) Q):WQ P ty aC call yf ops tS k te Q:=by
 intro ι env S hR
 obtain⟨ax,bS,n1,n2,n3⟩:=hq ι (eP env o.dst (.val b)) S (kC hR (by simp only[RT]) _)
 refine⟨ax,bS,?_,n2,n3⟩
 rw[kG ho]
 have hs:=h hR.env S.length
 obtain⟨op,t,x,y,u,hop⟩:=hb
 have hq:b7 P ty aC call yf (ga env) o S=some (.val b):=by
  simp only[b7,hop]
  rw[hs]; rfl
 simp only[mq,fB hR.env hw,if_true,hq,n1]
def B8 (P:Program) (ty:eY) (aC:bk) (call:aW) (yf:dR) (B:List Nat) (ops:Array Oper) (Q:List TV→List TB→Prop) (md:Nat) (ow:List TB) (k:Nat) (te:List TV) (tS:List TB) (fs:List cu):Prop :=
 match md with
 | 0=>WL P ty aC call yf B ops k te tS Q
 | 1=>tS=ow→WQ P ty aC call yf ops ow k te fun te=>Q te ow
 | _=>WD P ty aC call yf B ops k te tS fs Q
theorem CN {Q:List TV→List TB→Prop} {md k:Nat} {ow:List TB} (qW:md≤2) (ho:ops[k]? = some o) (hw:dh ops te o=some false) {K:KO} (hK:∀ te tS fs,K te tS fs→B8 P ty aC call yf B ops Q md ow (k+1) te tS fs) (h:Im o te tS fs K):B8 P ty aC call yf B ops Q md ow k te tS fs:=by
 have h1:=hK _ _ _ (gN (K:=fun te=>K te tS (fs++[eT])) h)
 rcases PR qW with rfl | rfl | rfl
 ·exact Rr ho hw h1
 ·exact fun e=>Rq ho hw (h1 e)
 ·exact Rz ho hw h1
variable {inl:Zp}
def wF (call:aW) (T:gh) (inl:Zp):Prop:=∀ g fn j A tS (K:TV→List TB→Prop),T.X g=some (fn,j)→inl fn j A tS K→JH call g A tS K
def Rg (ty:eY) (md:Nat) (o:Oper) (Ao:List TV) (Dz:List TB) (te:List TV) (tS:List TB):Prop :=
 match md with
 | 0=>Gg ty Ao Dz o=some (te,tS)
 | _=>Ao=te∧Dz=tS
theorem S5 (hT:oO T aC call) (hI:wF call T inl) {Q:List TV→List TB→Prop} {md n0 k:Nat} {ow Dz:List TB} {Ao:List TV} (qW:md≤2) (ho:ops[k]? = some o) (hw:dh ops Ao o=some true) (oD:Rg ty md o Ao Dz te tS) {K:KO} (hK:∀ te tS fs,K te tS fs→B8 P ty aC call yf B ops Q md ow (k+1) te tS fs)
  (hn:Cc tS (J2 md n0 k tS)=true) (h:Nk ty tt T inl md o te tS fs K):B8 P ty aC call yf B ops Q md ow k Ao Dz fs:=by
 unfold Nk at h
 split at h
 ·rename_i A fn j hx
  obtain⟨rfl,f,args,argTypes,g,fs1,cs1,xs,c1,c2,c3,c4,rfl,c5⟩:=SE hx
  refine lq ho hw oD (Py c1 c2 c3 c4 (hI g fn j _ tS _ c5 h)) ?_
  rintro v bS bV ft ⟨rfl,hv⟩
  exact hK _ _ _ (gN (K:=fun te=>K te bV fs) (cg (mO tS te) (K:=fun te=>iy te o.dst v fun te=>K te bV fs) (fO v (K:=fun v=>cT (mO tS te) fun te=>iy te o.dst v fun te=>K te bV fs) hv)))
 split at h
 ·exact h.elim
 rename_i hh
 replace hh:ty.h o≠1:=by simpa using hh
 split at h
 ·rename_i g targs hc
  obtain⟨f,args,argTypes,fs1,cs1,xs,c1,c2,c3,c4,c5⟩:=PG hc
  split at h
  ·rename_i p s hm hs
   have hm:md=0:=by simpa using hm
   subst hm
   obtain⟨hp,h⟩:=iJ h
   refine lq ho hw oD (HQ c1 hh c2 c3 c4 c5 (hT.N _ _ _ _ hs hp)) ?_
   rintro v bS bV ft ⟨ts,hq,rfl,rfl,rfl⟩
   have e:oH tS tS.length (.cells ts)=tS++[.cells ts]:=by unfold oH; rw[if_neg (Nat.lt_irrefl _)]
   rw[e]
   exact hK _ _ _ (gN (K:=fun te=>K te (tS++[.cells ts]) fs) (HU (R:=fun cs=>iy bS o.dst (.ptr tS.length 0) fun te=>K te (tS++[.cells cs]) fs) h hq))
  ·split at h
   ·rename_i p s hs
    obtain⟨hp,h⟩:=iJ h
    have hsp:=hT.I _ _ _ _ hs hp
    have fin:∀ v,s.rX v→B8 P ty aC call yf B ops Q md ow (k+1) (j9 te o.dst v) tS (fs++[eT]):=fun v hv =>
     hK _ _ _ (gN (K:=fun te=>K te tS (fs++[eT])) (fO v (K:=fun v=>iy te o.dst v fun te=>K te tS (fs++[eT])) (HT (R:=fun v=>gu v fun v=>iy te o.dst v fun te=>K te tS (fs++[eT])) h hv)))
    rcases PR qW with rfl | rfl | rfl
    ·skip
     refine lq ho hw oD (z8 c1 hh c2 c3 c4 c5 hsp false) ?_
     rintro v bS bV ft ⟨hv,rfl,rfl,-⟩
     exact fin v hv
    ·obtain⟨rfl,rfl⟩:=oD
     exact fun e=>Oe ho hw c1 hh c2 c3 c4 c5 hsp fun v hv=>fin v hv e
    ·skip
     obtain⟨rfl,rfl⟩:=oD
     refine yj ho hw hn (z8 c1 hh c2 c3 c4 c5 hsp true) ?_
     rintro v bS bV ft ⟨hv,rfl,rfl,rfl⟩
     exact fin v hv
   ·exact h.elim
 ·split at h
  ·rename_i g kp targs ts hc
   split at h
   ·rename_i p s hs
    obtain⟨hp,h⟩:=iJ h
    have hsp:=hT.C _ _ _ _ _ hs hp
    have all:∀ v cs,s.holds v cs→Ei md v cs (gu v fun v=>iy te o.dst v fun te=>cT cs fun cs=>cH (tS.set kp (.cells cs)) fun tS=>K te tS (fs++[yw md kp])):=fun v cs hv =>
     LB (R:=fun v cs=>Ei md v cs (gu v fun v=>iy te o.dst v fun te=>cT cs fun cs=>cH (tS.set kp (.cells cs)) fun tS=>K te tS (fs++[yw md kp]))) h hv
    have fin:∀ v cs,s.holds v cs→B8 P ty aC call yf B ops Q md ow (k+1) (j9 te o.dst v) (tS.set kp (.cells cs)) (fs++[yw md kp]):=fun v cs hv=>by
     have h1:=gN (fO v (K:=fun v=>iy te o.dst v fun te=>cT cs fun cs=>cH (tS.set kp (.cells cs)) fun tS=>K te tS (fs++[yw md kp])) (Fb (all v cs hv)).2)
     exact hK _ _ _ (cL _ (K:=fun tS=>K _ tS (fs++[yw md kp])) (cg cs (K:=fun cs=>cH (tS.set kp (.cells cs)) fun tS=>K _ tS (fs++[yw md kp])) h1))
    rcases PR qW with rfl | rfl | rfl
    ·obtain⟨f,args,argTypes,fs1,cs1,xs,c1,c2,c3,c4,c5,c6,c7⟩:=KY (tt:=tt) hc
     refine lq ho hw oD (HO c1 hh c2 c3 c4 c5 c6 c7 hsp) ?_
     rintro v bS bV ft ⟨qG,hv,rfl,rfl,-⟩
     exact fin v qG hv
    ·cases hc
    ·obtain⟨f,args,argTypes,fs1,cs1,xs,off,rest,c1,c2,c3,c4,c5,c6,c7,rfl⟩:=KZ (tt:=tt) hc
     obtain⟨rfl,rfl⟩:=oD
     refine yj ho hw hn (FP (tt:=tt) c1 hh c2 c3 c4 c5 c6 c7 hsp fun v cs hv=>(Fb (all v cs hv)).1 rfl) ?_
     rintro v bS bV ft ⟨qG,hv,rfl,rfl,rfl⟩
     exact fin v qG hv
   ·exact h.elim
  ·exact h.elim
theorem EP {Q:List TV→List TB→Prop} {md n0 k:Nat} {ow Dz:List TB} {Ao:List TV} (qW:md≤2) (ho:ops[k]? = some o) (hw:dh ops Ao o=some true) (oD:Rg ty md o Ao Dz te tS) {K:KO} (hK:∀ te tS fs,K te tS fs→B8 P ty aC call yf B ops Q md ow (k+1) te tS fs)
  (hn:Cc tS (J2 md n0 k tS)=true) {v:TV} (hb:Nb o) (hp:aZ P ty tt te tS o=some (v,True)) (h:iy te o.dst v fun te=>K te tS (fs++[eT])):B8 P ty aC call yf B ops Q md ow k Ao Dz fs:=by
 have h1:=hK _ _ _ (gN (K:=fun te=>K te tS (fs++[eT])) h)
 rcases PR qW with rfl | rfl | rfl
 ·skip
  refine lq ho hw oD (qB (uC hb hp) trivial false) ?_
  rintro v' bS bV ft ⟨rfl,rfl,rfl,-⟩
  exact h1
 ·obtain⟨rfl,rfl⟩:=oD
  exact fun e=>IM ho hw (e▸hp) trivial (h1 e)
 ·skip
  obtain⟨rfl,rfl⟩:=oD
  refine yj ho hw hn (qB (uC hb hp) trivial true) ?_
  rintro v' bS bV ft ⟨rfl,rfl,rfl,rfl⟩
  rw[XT hb]
  exact h1
theorem NH (hT:oO T aC call) (hI:wF call T inl) {Q:List TV→List TB→Prop} {md n0 k:Nat} {ow Dz:List TB} {Ao:List TV} (qW:md≤2) (ho:ops[k]? = some o) (hw:dh ops Ao o=some true) (oD:Rg ty md o Ao Dz te tS) {K:KO} (hK:∀ te tS fs,K te tS fs→B8 P ty aC call yf B ops Q md ow (k+1) te tS fs)
  (h:QM P ty tt T inl md n0 k o te tS fs K):B8 P ty aC call yf B ops Q md ow k Ao Dz fs:=by
 unfold QM at h
 split at h
 ·exact h.elim
 ·rename_i hn
  split at h
  ·exact S5 hT hI qW ho hw oD hK hn h
  ·split at h
   ·rename_i v bS bV f c hm
    obtain⟨hc,h⟩:=h
    have h1:=gN (cg bS (K:=fun te=>iy te o.dst v fun te=>cH bV fun tS=>K te tS (fs++[f])) (fO v (K:=fun v=>cT bS fun te=>iy te o.dst v fun te=>cH bV fun tS=>K te tS (fs++[f])) h))
    have h1:=hK _ _ _ (cL bV (K:=fun tS=>K _ tS (fs++[f])) h1)
    unfold Um at hm
    split at hm
    ·rename_i v2 g c2 hr
     cases hm
     rcases PR qW with rfl | rfl | rfl
     ·refine lq ho hw oD (z7 hr hc false) ?_
      rintro v' YA Qj ft ⟨rfl,rfl,rfl,rfl⟩
      exact h1
     ·obtain⟨rfl,rfl⟩:=oD
      exact fun e=>Od ho hw (e▸hr) hc (h1 e)
     ·obtain⟨rfl,rfl⟩:=oD
      refine yj ho hw hn (z7 hr hc true) ?_
      rintro v' YA Qj ft ⟨rfl,rfl,rfl,rfl⟩
      exact h1
    ·split at hm
     ·cases hm
     rename_i h91
     split at hm
     ·rename_i g Qj hs
      cases hm
      rcases PR qW with rfl | rfl | rfl
      ·refine lq ho hw oD (zZ hs false) ?_
       rintro v' YA Qj ft ⟨rfl,rfl,rfl,rfl⟩
       exact h1
      ·exact absurd rfl h91
      ·obtain⟨rfl,rfl⟩:=oD
       refine yj ho hw hn (zZ hs true) ?_
       rintro v' YA Qj ft ⟨rfl,rfl,rfl,rfl⟩
       exact h1
     ·split at hm
      ·rename_i h90
       subst h90
       simp only[Option.map_eq_some_iff,Prod.mk.injEq] at hm
       obtain⟨⟨v2,YA,Qj,c2⟩,hs,rfl,rfl,rfl,rfl,rfl⟩:=hm
       refine lq ho hw oD (HP hs hc) ?_
       rintro v' te3 tS3 ft ⟨rfl,rfl,rfl⟩
       exact h1
      ·cases hm
   split at h
   ·rename_i v bV c hm
    have h0:md=0:=by
     unfold mapM at hm
     split at hm
     ·rfl
     ·cases hm
    subst h0
    refine lq ho hw oD (Px hm h.1) ?_
    rintro v' bS Qj ft ⟨rfl,rfl,rfl⟩
    have h1:=gN (fO v' (K:=fun v=>iy bS o.dst v fun te=>cH Qj fun tS=>K te tS (fs++[⟨none,true⟩])) h.2)
    exact hK _ _ _ (cL Qj (K:=fun tS=>K _ tS (fs++[⟨none,true⟩])) h1)
   split at h
   ·rename_i v c ha
    exact EP qW ho hw oD hK hn (Lx ha) (HS (tt:=tt) ha h.1) h.2
   ·split at h
    ·rename_i b _ hb
     exact EP qW ho hw oD hK hn (SX hb) (PC (tt:=tt) hb) h
    ·rename_i b c _ _ hb
     obtain⟨hc,h⟩:=h
     have h1:=hK _ _ _ (gN (K:=fun te=>K te tS (fs++[eT])) h)
     rcases PR qW with rfl | rfl | rfl
     ·refine lq ho hw oD (Fe (mW (P:=P) (aC:=aC) (call:=call) (yf:=yf) (ι:=c9) (S:=[]) hb hc).1 (fun hE ay=>(mW hb hc).2 hE ay) false) ?_
      rintro v' bS bV ft ⟨rfl,rfl,rfl,-⟩
      exact h1
     ·obtain⟨rfl,rfl⟩:=oD
      exact fun e=>WC ho hw (mW (P:=P) (aC:=aC) (call:=call) (yf:=yf) (ι:=c9) (S:=[]) hb hc).1 (fun hE ay=>(mW hb hc).2 hE ay) (h1 e)
     ·obtain⟨rfl,rfl⟩:=oD
      refine yj ho hw hn (Fe (mW (P:=P) (aC:=aC) (call:=call) (yf:=yf) (ι:=c9) (S:=[]) hb hc).1 (fun hE ay=>(mW hb hc).2 hE ay) true) ?_
      rintro v' bS bV ft ⟨rfl,rfl,rfl,rfl⟩
      exact h1
    ·have key:md≠1→∀ q:TR,stepT P ty tt te tS o (J2 md n0 k tS)=some q→q.c→K (j9 q.te o.dst q.v) q.tS (fs++[⟨some q.Cj,kQ o⟩])→B8 P ty aC call yf B ops Q md ow k Ao Dz fs:=by
      intro hm q hq hc hk
      have h1:=hK _ _ _ hk
      rcases PR qW with rfl | rfl | rfl
      ·skip
       refine lq ho hw oD (qB hq hc false) ?_
       rintro v' bS bV ft ⟨rfl,rfl,rfl,-⟩
       exact h1
      ·exact(hm rfl).elim
      ·skip
       obtain⟨rfl,rfl⟩:=oD
       refine yj ho hw hn (qB hq hc true) ?_
       rintro v' bS bV ft ⟨rfl,rfl,rfl,rfl⟩
       exact h1
     split at h
     ·split at h
      ·rename_i q hq
       have fin:∀ {R:Prop},q.2→K (j9 te o.dst q.1) tS (fs++[eT])→B8 P ty aC call yf B ops Q 1 ow k Ao Dz fs:=fun {_} hc hk=>by
        obtain⟨h8,h9⟩:=oD
        subst h8 h9
        exact fun e=>IM ho hw (e▸(show aZ P ty tt Ao Dz o=some (q.1,q.2) from hq)) hc (hK _ _ _ hk e)
       split at h
       ·exact fin (R:=True) h.1 (gN (K:=fun te=>K te tS (fs++[eT])) (fO q.1 (K:=fun v=>iy te o.dst v fun te=>K te tS (fs++[eT])) h.2))
       ·rename_i kZ
        exact fin (R:=True) (EZ kZ hq) (gN (K:=fun te=>K te tS (fs++[eT])) (fO q.1 (K:=fun v=>iy te o.dst v fun te=>K te tS (fs++[eT])) h))
      ·exact h.elim
     ·rename_i hm
      split at h
      ·rename_i q hq
       split at h
       ·refine key (fun e=>hm e) q hq h.1 ?_
        have h1:=cg q.te (fO q.v (K:=fun v=>cT q.te fun te=>iy te o.dst v fun te=>cH q.tS fun tS=>K te tS (fs++[⟨some q.Cj,kQ o⟩])) h.2)
        exact cL q.tS (K:=fun tS=>K _ tS _) (gN h1)
       ·rename_i kZ
        refine key (fun e=>hm e) q hq (O7 kZ hq) ?_
        have h1:=gN (fO q.v (K:=fun v=>iy q.te o.dst v fun te=>cH q.tS fun tS=>K te tS (fs++[⟨some q.Cj,kQ o⟩])) h)
        exact cL q.tS (K:=fun tS=>K _ tS _) h1
      ·exact h.elim
theorem EC {n:Int} {K:Nat→Prop}:∀ (c j:Nat),Gx n K c j→∃ i:Nat,n=i∧K i
 | 0,_,h=>h.elim
 | c+1,j,h=>by
  obtain⟨h1,h2⟩:=qn h
  by_cases e:n=(j:Int)
  ·exact⟨j,e,h1 (decide_eq_true e)⟩
  ·exact EC c (j+1) (h2 (decide_eq_false e))
theorem XV {t c:Nat} {n:Int} (h:We ty te o=some (t,n,c)):te[t]? = some (.val (.int .i64 n)):=by
 unfold We at h
 split at h
 ·split at h
  ·rename_i h1 h2; cases h; exact h2
  ·cases h
 ·split at h
  ·rename_i h1 h2; cases h; exact h2
  ·cases h
 ·cases h
theorem NG (hT:oO T aC call) (hI:wF call T inl) {Q:List TV→List TB→Prop} {md n0 k:Nat} {ow Dz:List TB} {Ao:List TV} (qW:md≤2) (ho:ops[k]? = some o) (hw:dh ops Ao o=some true) (oD:Rg ty md o Ao Dz te tS) {K:KO} (hK:∀ te tS fs,K te tS fs→B8 P ty aC call yf B ops Q md ow (k+1) te tS fs)
  (h:J1 P ty tt T inl md n0 k o te tS fs K):B8 P ty aC call yf B ops Q md ow k Ao Dz fs:=by
 unfold J1 at h
 split at h
 ·rename_i t n c ha
  obtain⟨i,rfl,hi⟩:=EC _ _ h
  have:=lW te t _ hi
  rw[lB (XV ha)] at this
  exact NH hT hI qW ho hw oD hK this
 ·exact NH hT hI qW ho hw oD hK h
theorem MU (hT:oO T aC call) (hI:wF call T inl) {Q:List TV→List TB→Prop} {md n0 k:Nat} {ow:List TB} (qW:md≤2) (ho:ops[k]? = some o) (hw:dh ops te o=some true) {K:KO} (hK:∀ te tS fs,K te tS fs→B8 P ty aC call yf B ops Q md ow (k+1) te tS fs)
  (h:YF P ty tt T inl md n0 k o te tS fs K):B8 P ty aC call yf B ops Q md ow k te tS fs:=by
 unfold YF at h
 split at h
 ·split at h
  ·rename_i j6 gT hp
   exact NG hT hI qW ho hw hp hK (cL gT (K:=fun tS=>J1 P ty tt T inl 0 n0 k o j6 tS fs K) (cg j6 (K:=fun te=>cH gT fun tS=>J1 P ty tt T inl 0 n0 k o te tS fs K) h))
  ·exact h.elim
 ·rename_i hno
  refine NG hT hI qW ho hw ?_ hK h
  rcases PR qW with rfl | rfl | rfl
  ·show Gg ty te tS o=some (te,tS)
   unfold Gg
   split
   ·rename_i h2; exact(hno rfl h2).elim
   ·rfl
  ·exact⟨rfl,rfl⟩
  ·exact⟨rfl,rfl⟩
theorem UE {b:Bool} (h:Zh ops te o = .no b):dh ops te o=some b:=by
 unfold Zh at h
 unfold dh
 split at h
 ·cases h; rename_i e; rw[e]
 ·rename_i e
  rw[e]
  dsimp only
  split at h
  ·rename_i e1
   rw[e1]
   dsimp only
   split at h
   ·cases h
   ·cases h
   ·cases h
    rename_i v hv e2
    rw[e2]
    split<;>simp_all
   ·cases h
  ·cases h; rename_i e1; rw[e1]
theorem XK {d:Tmp} {b want:Bool} (h:Zh ops te o = .ask d b want):te[d]? = some (.val (.bool b))∧dh ops te o=some (match want with | true=>b | false => !b):=by
 unfold Zh at h
 unfold dh
 split at h
 ·cases h
 ·rename_i e
  rw[e]
  dsimp only
  split at h
  ·rename_i e1
   rw[e1]
   dsimp only
   split at h
   ·cases h; rename_i e2; rw[e2]; cases want<;>exact⟨rfl,rfl⟩
   ·cases h
   ·cases h
   ·cases h
  ·cases h
theorem yA (hT:oO T aC call) (hI:wF call T inl) {Q:List TV→List TB→Prop} {md n0:Nat} {ow:List TB} (qW:md≤2) {K:KO} (hK:∀ te tS fs,K te tS fs→B8 P ty aC call yf B ops Q md ow ops.size te tS fs) :
  ∀ (r:List Oper) (k:Nat) (te:List TV) (tS:List TB) (fs:List cu),ops.toList.drop k=r→lS P ty tt T inl md n0 ops r k te tS fs K→B8 P ty aC call yf B ops Q md ow k te tS fs
 | [],k,te,tS,fs,hr,h=>by
  have hk:ops.size≤k:=by
   have:=List.drop_eq_nil_iff.1 hr
   simpa using this
  have h1:=hK te tS fs h
  rcases PR qW with rfl | rfl | rfl
  ·intro ι env S hR hB; have:=h1 ι env S hR hB; rw[List.drop_eq_nil_of_le (by simp)] at this; rw[List.drop_eq_nil_of_le (by simpa using hk)]; exact this
  ·intro e ι env S hR; have:=h1 e ι env S hR; rw[List.drop_eq_nil_of_le (by simp)] at this; rw[List.drop_eq_nil_of_le (by simpa using hk)]; exact this
  ·skip
   intro ι w env S n0 hR hB hw hn
   have:=h1 ι w env S n0 hR hB hw (fun j hj uS=>by omega)
   rw[List.drop_eq_nil_of_le (by simp)] at this
   rw[List.drop_eq_nil_of_le (by simpa using hk)]
   obtain⟨ax,S',x5,ι',w',bS,bV,ft,e1,e2,e3,e4,e5,e6,e7,e8,e9⟩:=this
   exact⟨ax,S',x5,ι',w',bS,bV,ft,e1,e2,fun j _=>e3 j fun i hi H9=>by omega,e4,e5,e6,e7,⟨e8.1,fun j _ hn=>e8.2 j (fun i hi H9=>by omega) hn⟩,e9⟩
 | o::r,k,te,tS,fs,hr,h=>by
  obtain⟨ho,xD⟩:=FL hr
  have ih:∀ te tS fs,lS P ty tt T inl md n0 ops r (k+1) te tS fs K→B8 P ty aC call yf B ops Q md ow (k+1) te tS fs:=fun te tS fs=>yA hT hI qW hK r (k+1) te tS fs xD.symm
  simp only[lS] at h
  split at h
  ·rename_i hg
   exact MU hT hI qW ho (UE hg) ih h
  ·rename_i hg
   exact CN qW ho (UE hg) ih h
  ·rename_i d b want hg
   obtain⟨h1,h2⟩:=XK hg
   split at h
   ·obtain⟨k1,k2⟩:=qn h
    cases b with
    | true=>have:=lW te d _ (k1 rfl); rw[lB h1] at this; exact MU hT hI qW ho h2 ih this
    | false=>have:=lW te d _ (k2 rfl); rw[lB h1] at this; exact CN qW ho h2 ih this
   ·obtain⟨k1,k2⟩:=qn h
    cases b with
    | true=>have:=lW te d _ (k1 rfl); rw[lB h1] at this; exact CN qW ho h2 ih this
    | false=>have:=lW te d _ (k2 rfl); rw[lB h1] at this; exact MU hT hI qW ho h2 ih this
  ·exact h.elim
end Go.Tv
end
section
namespace Go.Tv
open Go Go.Di Go.Proofs
variable {P:Program} {ty:eY} {tt:TypeId→Option TT} {T:gh} {ι ι' w:jE} {S S':ak} {te j6:List TV} {env:List DV} {tS gT:List TB} {aC:bk} {call:aW} {yf:dR} {o:Oper} {ay nT:Nat} {B:List Nat} {r:TR} {ops:Array Oper} {fn:FuncId} {fF:Bool} {fs:List cu}
def LA.St:LA→Type
 | .ex α k=>(x:α)×(k x).St
 | .st _=>Unit
 | .un _=>Empty
 | .dep _=>Empty
 | .pe _ _=>Empty
def LA.bd:(la:LA)→la.St→Bd
 | .ex _ k,⟨x,s⟩=>(k x).bd s
 | .st b,_=>b
theorem tV {K:Bd→Prop}:∀ {la:LA},la.some K→∃ s:la.St,K (la.bd s)
 | .ex _ k,⟨x,h⟩=>by
  obtain⟨s,h1⟩:=tV (la:=k x) h
  exact⟨⟨x,s⟩,h1⟩
 | .st b,h=>⟨(),h⟩
 | .un _,h=>h.elim
 | .dep _,h=>h.elim
 | .pe _ _,h=>h.elim
theorem Is {K:Bd→Prop}:∀ {la:LA},la.all K→∀ s:la.St,K (la.bd s)
 | .ex _ _,h,⟨x,s⟩=>Is (h x) s
 | .st _,h,_=>h
theorem Pu {b:Bd} {keep:Nat} {K:Prop} (h:N0 B b keep te tS K):Fits B (ko b.sl keep 0 te) (tE b tS) te tS∧cA b.dn∧K:=by
 obtain⟨h0,h⟩:=kA h
 simp only[Bool.and_eq_true] at h0
 obtain⟨l1,e1,k1,h⟩:=jg h
 obtain⟨l2,e2,k2,h⟩:=jg h
 obtain⟨h3,h4⟩:=iJ h
 exact⟨⟨uo e1 k1,gP e2 k2,h0.1,fun k hk=>List.all_eq_true.1 h0.2 k hk⟩,h3,h4⟩
theorem xW {b:Bd} {K:Prop} (h:IF B j6 gT b te tS K):Fits B j6 gT te tS∧cA b.dn∧K:=by
 obtain⟨h0,h⟩:=kA h
 simp only[Bool.and_eq_true] at h0
 obtain⟨l1,e1,k1,h⟩:=jg h
 obtain⟨l2,e2,k2,h⟩:=jg h
 obtain⟨h3,h4⟩:=iJ h
 exact⟨⟨tT e1 k1,Su e2 k2,h0.1,fun k hk=>List.all_eq_true.1 h0.2 k hk⟩,h3,h4⟩
theorem MK {N:Nat} {c:Code} {Q:DX→List TV→List TB→Prop} {K:List TV→List TB→Prop} {f:List TV→List TB→(List TV→List TB→Prop)→Prop} (hf:∀ te tS K',f te tS K'→WT P ty aC call yf B LL fn fF c te tS fun e te tS=>match e with | .normal=>K' te tS | e=>Q e te tS) (hK:∀ te tS,K te tS→WI P ty aC call yf B LL fn fF N c te tS Q) :
  ∀ (n:Nat) (te:List TV) (tS:List TB),unK f K n te tS→WI P ty aC call yf B LL fn fF (N+n) c te tS Q
 | 0,te,tS,h=>hK te tS h
 | n+1,te,tS,h=>Ru ((hf te tS _ h).mono fun e te tS hq=>by
   cases e with
   | normal=>exact MK hf hK n te tS hq
   | exit id=>exact hq
   | ret=>exact hq)
theorem Rv {n m:Nat} {c:Code} {Q:DX→List TV→List TB→Prop} (hn:n≤m) (h:WI P ty aC call yf B LL fn fF n c te tS Q):WI P ty aC call yf B LL fn fF m c te tS Q:=by
 intro ι env S hR hB
 obtain⟨e,ax,S',ι',bS,bV,h1,h2⟩:=h ι env S hR hB
 exact⟨e,ax,S',ι',bS,bV,vN hn h1,h2⟩
theorem EH {x:Operand} {v:Bool} {K:List TV→Prop} (hx:fG te x=some (.val (.bool v))) (h:MN x te v K):K te:=by
 cases x with
 | tmp t =>
  simp only[fG,Option.some.injEq] at hx
  have:=lW te t _ (h:Ax te t _ K)
  rwa [lB] at this
  rw[List.getD_eq_getElem?_getD] at hx
  cases e:te[t]? with
  | none=>rw[e] at hx; cases hx
  | some a=>rw[e] at hx; exact congrArg some hx
 | _=>exact h
variable {inl:Zp}
theorem Kc (hT:oO T aC call) (hI:wF call T inl) {id:Nat} {draw:Bool} {J:List (Nat×LA)} {i lv:Nat} {Q:DX→List TV→List TB→Prop} (h:sZ P ty tt T inl B J (.region id ops draw) i lv te tS Q):WT P ty aC call yf B LL fn fF (.region id ops draw) te tS Q:=by
 simp only[sZ] at h
 split at h
 ·split at h
  ·rename_i hn
   obtain⟨hd,h⟩:=kA h
   refine Ob hd hn ?_
   exact yA (md:=2) (n0:=tS.length) (ow:=tS) (Q:=fun te tS=>Q .normal te (j8 tS)) hT hI (by omega) (fun te tS fs hk=>by
    obtain⟨hm,hk⟩:=kA hk
    exact WM (Nat.le_refl _) hm (cL _ (K:=fun tS=>Q .normal te tS) hk)) ops.toList 0 te _ [] rfl (cL _ (K:=fun ow=>lS P ty tt T inl 2 tS.length ops ops.toList 0 te ow [] fun te tS fs=>aI (oM (Region.before ops) fs) (cH (j8 tS) fun tS=>Q .normal te tS) False) h)
  ·rename_i hn
   obtain⟨hd,h⟩:=kA h
   refine N7 hd hn ?_
   exact yA (B:=B) (md:=1) (n0:=0) (ow:=tS) (Q:=fun te tS=>Q .normal te tS) hT hI (by omega) (fun te tS fs hk _=>Nv (Nat.le_refl _) hk) ops.toList 0 te _ [] rfl h rfl
 ·refine N9 ?_
  exact yA (md:=0) (n0:=0) (ow:=tS) (Q:=fun te tS=>Q .normal te (j8 tS)) hT hI (by omega) (fun te tS fs hk=>WE (Nat.le_refl _) (cL _ (K:=fun tS=>Q .normal te tS) hk)) ops.toList 0 te _ [] rfl h
theorem KS {c:Code} (h:GG P c=some ops):qY P ops=false∧∃ id,c = .region id ops true:=by
 unfold GG at h
 split at h
 ·split at h
  ·cases h
  ·rename_i hl; cases h; exact⟨Bool.eq_false_iff.2 hl,_,rfl⟩
 ·cases h
theorem zJ {env:List DV} {dst:Option Tmp} {v:DV} {i:Nat} (h:dst≠some i):(eP env dst v)[i]? = env[i]? := by
 cases dst with
 | none=>rfl
 | some d =>
  simp only[eP]
  rw[List.getElem?_set,if_neg (fun e=>h (by rw[e]))]
theorem vE {i:Nat}:∀ {l:List Oper} {env ax:List DV},mq P ty aC call yf ops S l env=some ax→(∀ o∈l,o.dst≠some i)→ax[i]? = env[i]?
 | [],env,ax,h,_=>by cases h; rfl
 | o::l,env,ax,h,hd=>by
  simp only[mq] at h
  split at h
  ·split at h
   ·rw[vE h fun o' jj=>hd o' (List.mem_cons_of_mem _ jj),zJ (hd o (List.mem_cons_self ..))]
   ·cases h
  ·rw[vE h fun o' jj=>hd o' (List.mem_cons_of_mem _ jj),zJ (hd o (List.mem_cons_self ..))]
theorem Xx {u v:TV} {d:DV} (h:LeV u v) (hd:RT ι S v d):RT ι S u d:=by
 obtain⟨_,_,e,h1,-⟩:=ai (GK (h [] [] .nil) (dA hd))
 cases e
 exact h1
theorem sN {sl:List (Nat×TV)} {keep:Nat}:∀ {i:Nat} {te bS:List TV} {env ax:List DV} {l:List Prop},cq ι S te env→cq ι S bS ax→bS.length=te.length→q7 sl i bS=some l→cA l→(∀ j,keep.testBit (i+j)=true→ax[j]? = env[j]?)→cq ι S (ko sl keep i te) ax
 | _,[],[],_,_,_,_,h2,_,_,_,_=>by rw[aF h2]; exact bI
 | i,v::te,v'::bS,env,ax,l,h1,h2,hn,hp,hc,hk=>by
  obtain⟨d,m,rfl,a1,a2⟩:=ai h1
  obtain⟨d',m',rfl,b1,b2⟩:=ai h2
  have FZ:bS.length=te.length:=by simpa using hn
  have pZ:∀ j,keep.testBit (i+1+j)=true→m'[j]? = m[j]? := fun j hj=>by
   have:=hk (j+1) (by rw[← Nat.add_assoc,Nat.add_right_comm]; exact hj)
   simpa using this
  simp only[q7] at hp
  simp only[ko]
  split at hp
  ·rename_i p Md
   split at hp
   ·rename_i x y e1 e2
    cases hp
    obtain⟨k1,k2⟩:=jy hc
    exact aD (Xx (GJ e1 k1) b1) (sN a2 b2 FZ e2 k2 pZ)
   ·cases hp
  ·refine aD ?_ (sN a2 b2 FZ hp hc pZ)
   split
   ·rename_i hb
    have:=hk 0 hb
    simp only[List.getElem?_cons_zero,Option.some.injEq] at this
    rw[this]; exact a1
   ·simp only[RT]
 | _,[],_::_,_,_,_,_,_,hn,_,_,_=>by simp at hn
 | _,_::_,[],_,_,_,_,_,hn,_,_,_=>by simp at hn
theorem yR:∀ {l:List Oper} {env ax:List DV},mq P ty aC call yf ops S l env=some ax→ax.length=env.length
 | [],env,ax,h=>by cases h; rfl
 | o::l,env,ax,h=>by
  have hp:∀ (dst:Option Tmp) (v:DV),(eP env dst v).length=env.length:=fun dst v=>by cases dst<;>simp[eP]
  simp only[mq] at h
  split at h
  ·split at h
   ·rw[yR h,hp]
   ·cases h
  ·rw[yR h,hp]
theorem N8 {id:Nat} {b:Code} {Q:DX→List TV→List TB→Prop} {la:LA} {keep:Nat} (hd:iX ops (Region.before ops)=true) (hl:qY P ops=false) (hk:NM keep ops=true)
  (h1:WQ P ty aC call yf ops tS 0 te fun bS=>la.some fun bd=>ask (q7 bd.sl 0 bS) (yh bd.dn True))
  (h2:∀ s:la.St,cA (la.bd s).dn→WT P ty aC call yf B LL fn fF b (ko (la.bd s).sl keep 0 te) tS Q):WT P ty aC call yf B LL fn fF (.seq (.region id ops true) b) te tS Q:=by
 intro ι env S hR hB
 obtain⟨ax,bS,k1,k2,k3⟩:=h1 ι env S hR
 rw[List.drop_zero] at k1
 obtain⟨s,hs⟩:=tV k3
 obtain⟨l,e1,e2,e3⟩:=jg hs
 obtain⟨e3,-⟩:=iJ e3
 have LR:bL ι (ko (la.bd s).sl keep 0 te) tS ax S:=by
  refine⟨sN hR.env k2.env ?_ e1 e2 fun j hj => ?_,k2.cells,k2.own,k2.uP,k2.inj,k2.mp⟩
  ·rw[← fu k2.env,← fu hR.env,yR k1]
  ·refine vE k1 fun o ho e => ?_
   have:=List.all_eq_true.1 hk o ho
   rw[Nat.zero_add] at hj
   rw[e] at this
   simp only[hj] at this
   cases this
 obtain⟨e,mN,rH,ι'',rK,rM,m1,m2,m3,m4,m5,m6⟩:=h2 s e3 ι ax S LR hB
 refine⟨e,mN,rH,ι'',rK,rM,?_,m2,m3,m4,m5,m6⟩
 have:bC P ty aC call yf LL fn fF (.region id ops true) env S=some (.normal,ax,S):=by
  simp only[qY,Bool.or_eq_false_iff] at hl; simp only[bC,lX,if_true,hd,hl.2,Bool.not_true,Bool.false_eq_true,if_false,k1,Option.map_some]
 rw[bC,this]
 exact m1
theorem jk (hT:oO T aC call) (hI:wF call T inl) {J:List (Nat×LA)}:∀ (c:Code) (i lv:Nat) (te:List TV) (tS:List TB) (Q:DX→List TV→List TB→Prop),sZ P ty tt T inl B J c i lv te tS Q→WT P ty aC call yf B LL fn fF c te tS Q
 | .skip,_,_,_,_,_,h=>Rj h
 | .label _,_,_,_,_,_,h=>Oa h
 | .exit _,_,_,_,_,_,h=>Rn h
 | .ret,_,_,_,_,_,h=>WB h
 | .scope c,i,lv,te,tS,Q,h=>N6 (jk hT hI c i lv te tS Q h)
 | .block id c,i,lv,te,tS,Q,h=>by
  refine Oc ((jk hT hI c i lv te tS _ h).mono fun e te tS hq => ?_)
  cases e with
  | normal=>exact hq
  | ret=>exact hq
  | exit gJ =>
   dsimp only at hq ⊢
   split<;>simp_all
 | .cond x a b,i,lv,te,tS,Q,h=>by
  simp only[sZ] at h
  split at h
  ·rename_i t hx
   obtain⟨h1,h2⟩:=qn h
   refine Rp hx (fun e => ?_) (fun e => ?_)
   ·subst e; exact jk hT hI a i lv te tS Q (EH hx (h1 rfl))
   ·subst e; exact jk hT hI b (i+cnt a) lv te tS Q (EH hx (h2 rfl))
  ·exact h.elim
 | .seq a b,i,lv,te,tS,Q,h=>by
  simp only[sZ] at h
  split at h
  ·rename_i la _
   split at h
   ·rename_i ops hq
    obtain⟨h1,h2⟩:=h
    obtain⟨hl,id,rfl⟩:=KS hq
    obtain⟨h0,h1⟩:=kA h1
    simp only[Bool.and_eq_true] at h0
    refine N8 (la:=la) h0.1 hl h0.2 ?_ fun s hg=>jk hT hI b _ lv _ _ Q (cg _ (jw (Is h2 s) hg))
    exact yA (B:=B) (md:=1) (n0:=0) (ow:=tS) (Q:=fun bS _=>la.some fun bd=>ask (q7 bd.sl 0 bS) (yh bd.dn True)) hT hI (by omega) (fun bS bV fs hk _=>Nv (Nat.le_refl _) hk) ops.toList 0 te _ [] rfl h1 rfl
   obtain⟨h1,h2⟩:=h
   refine Rm (fun s:la.St=>(ko (la.bd s).sl ((lv ||| kR b) &&& (2 ^ 400-1-(defs a))) 0 te,tE (la.bd s) tS)) (fun s=>cA (la.bd s).dn) ((jk hT hI a (i+1) (lv ||| kR b) te tS _ h1).mono fun e bS bV hq => ?_) fun s hg=>jk hT hI b (i+1+cnt a) lv _ _ Q (cL _ (cg _ (jw (Is h2 s) hg)))
   cases e with
   | normal =>
    obtain⟨s,hs⟩:=tV hq
    obtain⟨k1,k2,-⟩:=xW hs
    exact⟨s,k1,k2⟩
   | exit id=>exact hq
   | ret=>exact hq
  ·refine Nu ((jk hT hI a (i+1) (lv ||| kR b) te tS _ h).mono fun e te tS hq => ?_)
   cases e with
   | normal=>exact jk hT hI b _ _ te tS Q hq
   | exit id=>exact hq
   | ret=>exact hq
 | .loop c,i,lv,te,tS,Q,h=>by
  simp only[sZ] at h
  split at h
  ·rename_i la _
   have hF:∀ te tS (K':List TV→List TB→Prop),sZ P ty tt T inl B J c (i+1) (lv ||| kR c) te tS (fun e te tS=>match e with
    | .normal=>K' te tS
    | .exit id=>Q (.exit id) te tS
    | .ret=>Q .ret te tS)→WT P ty aC call yf B LL fn fF c te tS fun e te tS=>match e with | .normal=>K' te tS | e=>Q e te tS:=fun te tS K' hf=>(jk hT hI c _ _ te tS _ hf).mono fun e te tS hq=>by
     cases e with
     | normal=>exact hq
     | exit id=>exact hq
     | ret=>exact hq
   refine Kb (n:=1000000+min la.Ul 1000) (by unfold LL; omega) (MK hF (fun te tS h => ?_) _ te tS h)
   generalize la.inner.at te tS=la at h
   split at h
   ·exact Rv (by omega) (MK (N:=0) hF (fun _ _ h=>h.elim) _ te tS h)
   ·obtain⟨h1,h2⟩:=h
    obtain⟨s0,h1⟩:=tV h1
    obtain⟨k1,k2,k3⟩:=Pu h1
    refine Rw (fun s:la.St=>(ko (la.bd s).sl ((lv ||| kR c) &&& (2 ^ 400-1-(defs c))) 0 te,tE (la.bd s) tS)) (fun s=>cA (la.bd s).dn) (fun s=>(la.bd s).m) s0 k1 k2 k3 fun s hg=>(jk hT hI c (i+1) (lv ||| kR c) _ _ _ (cL _ (cg _ (jw (Is h2 s) hg)))).mono fun e bS bV hq => ?_
    cases e with
    | normal =>
     obtain⟨s',hs⟩:=tV hq
     obtain⟨k1,k2,k3⟩:=xW hs
     exact⟨s',k1,k2,k3⟩
    | exit id=>exact hq
    | ret=>exact hq
  ·exact h.elim
 | .region id ops draw,i,lv,te,tS,Q,h=>Kc hT hI h
 | .rangeFunc ..,_,_,_,_,_,h=>(by simp only[sZ] at h)
 | .goto _,_,_,_,_,_,h=>(by simp only[sZ] at h)
 | .refuse _,_,_,_,_,_,h=>(by simp only[sZ] at h)
theorem xJ {K K':TV→List TV→List Prop→Prop} (hK:∀ v cs f,K v cs f→K' v cs f):∀ {s:qX},s.some K→s.some K'
 | .ex _ k,⟨x,h⟩=>⟨x,xJ (s:=k x) hK h⟩
 | .res _ _ _,h=>hK _ _ _ h
theorem IC {F:List TV→List TB→Prop} {E:DX→List TV→List TB→Prop} (h1:∀ te tS,F te tS→E .normal te tS∧E .ret te tS):∀ {e:DX} {te:List TV} {tS:List TB},J8 F e te tS→E e te tS
 | .normal,_,_,h=>(h1 _ _ h).1
 | .ret,_,_,h=>(h1 _ _ h).2
 | .exit _,_,_,h=>h.elim
theorem UK {rs:List ResultVar} {j7:List (Option TT)} {s:qX} (h:Q3 ty rs j7 s te tS):Wp ty rs j7 (fun v=>s.rX v) .normal te tS∧Wp ty rs j7 (fun v=>s.rX v) .ret te tS:=by
 unfold Q3 at h
 split at h
 ·rename_i vs hv
  have h:=cg (th tS vs) (K:=fun vs=>aI (vs.all eL&&(refs (iO (aX j7 vs))).isEmpty) (s.some fun v _ facts=>ask (Vm (iO (aX j7 vs)) v) (cA facts)) False) h
  obtain⟨h0,h⟩:=kA h
  simp only[Bool.and_eq_true,List.isEmpty_iff] at h0
  have:∃ vs,x8 ty te tS rs=some vs∧(th tS vs).all eL=true∧refs (iO (aX j7 (th tS vs)))=[]∧s.rX (iO (aX j7 (th tS vs))):=by
   refine⟨vs,hv,h0.1,h0.2,xJ (fun v cs f hk => ?_) h⟩
   obtain⟨l,h1,h2,h3⟩:=jg hk
   exact⟨Cz h1 h2,h3⟩
  exact⟨⟨trivial,this⟩,trivial,this⟩
 ·exact h.elim
theorem aa2 {rs:List ResultVar} {j7 mF:List (Option TT)} {s:qX} (h:V8 ty rs j7 mF s te tS):MJ ty rs j7 mF (fun v cs=>s.holds v cs) .normal te tS∧MJ ty rs j7 mF (fun v cs=>s.holds v cs) .ret te tS:=by
 unfold V8 at h
 split at h
 ·rename_i vs ts l hv
  obtain⟨h0,h⟩:=kA h
  simp only[Bool.and_eq_true,List.isEmpty_iff] at h0
  have:s.holds (iO (aX j7 vs)) (aX mF ts):=by
   refine xJ (fun v cs f hk => ?_) h
   obtain⟨l,h1,h2,hk⟩:=jg hk
   obtain⟨l',h3,h4,h5⟩:=jg hk
   exact⟨Cz h1 h2,sj h3 h4,h5⟩
  exact⟨⟨trivial,vs,ts,hv,h0.1.1,h0.1.2,rfl,h0.2.1,h0.2.2,this⟩,trivial,vs,ts,hv,h0.1.1,h0.1.2,rfl,h0.2.1,h0.2.2,this⟩
 ·exact h.elim
theorem aa1 {rs:List ResultVar} {mF:List (Option TT)} {s:qX} (h:V7 ty rs mF s te tS):Wo ty rs mF (fun cs=>s.vn cs) .normal te tS∧Wo ty rs mF (fun cs=>s.vn cs) .ret te tS:=by
 unfold V7 at h
 split at h
 ·rename_i ts l hv
  obtain⟨h0,h⟩:=kA h
  simp only[Bool.and_eq_true,List.isEmpty_iff] at h0
  have:s.vn (aX mF ts):=by
   refine xJ (fun v cs f hk => ?_) h
   obtain⟨l',h3,h4,h5⟩:=jg hk
   exact⟨sj h3 h4,h5⟩
  exact⟨⟨trivial,ts,hv,rfl,h0.1,h0.2,this⟩,trivial,ts,hv,rfl,h0.1,h0.2,this⟩
 ·exact h.elim
theorem Xq:∀ {vs:List TV} {ds:List DV},cq ι S vs ds→RT ι S (iO vs) (oneOf ds)
 | [],ds,h=>by rw[aF h]; simp only[iO,oneOf,RT]; exact bI
 | [v],ds,h=>by
  obtain⟨d,m',rfl,h1,h2⟩:=ai h
  rw[aF h2]; exact h1
 | v::u::l,ds,h=>by
  obtain⟨d,m',rfl,h1,h2⟩:=ai h
  obtain⟨d',m'',rfl,h3,h4⟩:=ai h2
  simp only[iO,oneOf,RT]
  exact aD h1 (aD h3 h4)
def XOK (P:Program) (T:gh):Prop:=∀ g fn j,T.X g=some (fn,j)→P.funcs[g]? = some fn∧fn.body.isSome=true
def Lev (P:Program) (ty:eY) (T:gh):Nat→bk→aW→Prop
 | 0,aC,call=>oO T aC call
 | d+1,aC,call=>oO T aC call∧∃ VF Nl yf',(∀ g fn,P.funcs[g]? = some fn→∀ a S,call g a S=ry P ty VF Nl yf' LL g fn a S)∧Lev P ty T d VF Nl
theorem nM {d:Nat} (h:Lev P ty T d aC call):oO T aC call:=by
 cases d with
 | zero=>exact h
 | succ d=>exact h.1
theorem rV (hX:XOK P T):∀ (d:Nat) {aC:bk} {call:aW},Lev P ty T d aC call→wF call T (DT P ty tt T d)
 | 0,_,_,_=>fun _ _ _ _ _ _ _ h=>h.elim
 | d+1,aC,call,hL=>by
  obtain⟨-,VF,Nl,yf',hb,Qw⟩:=hL
  intro g fn j A tS K hx hi ι bY S hR
  obtain⟨hf,hs⟩:=hX g fn j hx
  have hw:=jk (fn:=g) (fF:=false) (yf:=yf') (nM Qw) (rV hX d Qw) _ _ _ _ _ _ (cg _ hi)
  have hlen:=fu hR.env
  have jX:bL ι (JZ fn.ntmps A) tS (bY++List.replicate (fn.ntmps-bY.length) aO) S :=
   ⟨dI hR.env (by rw[hlen]; exact qd _ _),hR.cells,hR.own,hR.uP,hR.inj,hR.mp⟩
  obtain⟨e,ax,S',ι',bS,bV,h1,h2,h3,h4,h5,h6⟩:=hw ι _ S jX XA
  have key:V6 ty fn.results.toList K bS bV→(e = .normal∨e = .ret)→∃ d S' ι' v bV,call g bY S=some (d,S')∧bL ι' [v] bV [d] S'∧mo (ey 0 tS) bV∧Fr (ey 0 tS) ι S ι' S'∧Nn S.length S S'∧K v bV:=by
   intro hk he
   unfold V6 at hk
   split at hk
   ·rename_i vs hv
    obtain⟨ds,k1,k2⟩:=qh h2 hv
    refine⟨oneOf ds,S',ι',iO vs,bV,?_,⟨dA (Xq k2),h2.cells,h2.own,h2.uP,h2.inj,h2.mp⟩,h3,h4,h5,hk⟩
    rw[hb g fn hf]
    unfold wE at h1
    simp only[ry]
    cases hc:fn.body with
    | none=>rw[hc] at hs; cases hs
    | some c =>
     rw[hc] at h1
     simp only[Option.getD_some] at h1
     simp only[h1]
     rcases he with rfl | rfl<;>simp only[k1,Option.map_some]
   ·exact hk.elim
  cases e with
  | normal=>exact key h6 (.inl rfl)
  | ret=>exact key h6 (.inr rfl)
  | exit id=>exact h6.elim
def vcI (T:gh) (d:Nat) (f:Func) (j7:List (Option TT)) (J:List (Nat×LA)) (a:List TV) (s:qX):Prop:=cT (JZ f.ntmps a) fun te=>sZ Tp Ty LC T (DT Tp Ty LC T d) [] J (wE f) 0 (xM f.results.toList) te [] (J8 (Q3 Ty f.results.toList j7 s))
def Zq (T:gh) (d:Nat) (f:Func) (j7 mF:List (Option TT)) (J:List (Nat×LA)) (a cs:List TV) (s:qX):Prop:=cT (JZ f.ntmps a) fun te=>sZ Tp Ty LC T (DT Tp Ty LC T d) [0] J (wE f) 0 (xM f.results.toList) te [.cells cs] (J8 (V8 Ty f.results.toList j7 mF s))
def vcN (T:gh) (d:Nat) (f:Func) (mF:List (Option TT)) (J:List (Nat×LA)) (a:List TV) (s:qX):Prop:=cT (JZ f.ntmps a) fun te=>sZ Tp Ty LC T (DT Tp Ty LC T d) [] J (wE f) 0 (xM f.results.toList) te [] (J8 (V7 Ty f.results.toList mF s))
def jU (aV:bk) (k:Nat) (T:gh):Prop:=XOK Tp T∧∀ n,oO T (rO aV (n+k)) (j5 aV (n+k))
def gh.dw (T:gh) (f:FuncId) (S:List TV→Sp):gh:={ T with I:=fun g a=>if g=f then S a else T.I g a }
def gh.qU (T:gh) (f:FuncId) (S:List TV→List TV→Sp):gh:={ T with C:=fun g a c=>if g=f then S a c else T.C g a c }
def gh.Re (T:gh) (f:FuncId) (S:List TV→Sp):gh:={ T with N:=fun g a=>if g=f then S a else T.N g a }
def gh.Rc (T:gh) (f:FuncId) (fn:Func) (j:List (Nat×LA)):gh:={ T with X:=fun g=>if g=f then some (fn,j) else T.X g }
variable {aV:bk} {k:Nat}
theorem iC (h:jU aV k T):jU aV (k+1) T:=⟨h.1,fun n=>by have:=h.2 (n+1); rwa [Nat.add_right_comm,Nat.add_assoc] at this⟩
theorem mb (h:jU aV k T):∀ (d n:Nat),Lev Tp Ty T d (rO aV (n+(k+d))) (j5 aV (n+(k+d)))
 | 0,n=>h.2 n
 | d+1,n=>by
  refine⟨?_,rO aV (n+(k+d)),j5 aV (n+(k+d)),Te aV (n+(k+d)),fun g fn hf a S => ?_,mb h d n⟩
  ·have:=h.2 (n+(d+1)); rwa [Nat.add_assoc,Nat.add_comm (d+1) k] at this
  ·rw[show n+(k+(d+1))=(n+(k+d))+1 by omega]
   simp only[wD,cG,hf]
   rfl
theorem Il {f:FuncId} {S:List TV→Sp} (hT:jU aV k T) (h:∀ n a p s,S a=some (p,s)→cA p→oS (rO aV (n+k)) f a fun v=>s.rX v):jU aV k (T.dw f S):=⟨hT.1,fun n=>⟨fun g a p s hs hp=>by
 simp only[gh.dw] at hs
 split at hs
 ·rename_i e; subst e; exact h n a p s hs hp
 ·exact(hT.2 n).I g a p s hs hp,(hT.2 n).C,(hT.2 n).N⟩⟩
theorem aal {f:FuncId} {S:List TV→List TV→Sp} (hT:jU aV k T) (h:∀ n a cs p s,S a cs=some (p,s)→cA p→wG (j5 aV (n+k)) f a cs fun v cs=>s.holds v cs):jU aV k (T.qU f S):=⟨hT.1,fun n=>⟨(hT.2 n).I,fun g a cs p s hs hp=>by
 simp only[gh.qU] at hs
 split at hs
 ·rename_i e; subst e; exact h n a cs p s hs hp
 ·exact(hT.2 n).C g a cs p s hs hp,(hT.2 n).N⟩⟩
theorem aak {f:FuncId} {S:List TV→Sp} (hT:jU aV k T) (h:∀ n a p s,S a=some (p,s)→cA p→yx (rO aV (n+k)) (j5 aV (n+k)) f a fun cs=>s.vn cs):jU aV k (T.Re f S):=⟨hT.1,fun n=>⟨(hT.2 n).I,(hT.2 n).C,fun g a p s hs hp=>by
 simp only[gh.Re] at hs
 split at hs
 ·rename_i e; subst e; exact h n a p s hs hp
 ·exact(hT.2 n).N g a p s hs hp⟩⟩
theorem TU {f:FuncId} {fn:Func} {j:List (Nat×LA)} (hT:jU aV k T) (hf:Tp.funcs[f]? = some fn) (hb:fn.body.isSome=true):jU aV k (T.Rc f fn j):=⟨fun g sW j' hx=>by
 simp only[gh.Rc] at hx
 split at hx
 ·rename_i e; subst e; cases hx; exact⟨hf,hb⟩
 ·exact hT.1 g sW j' hx,fun n=>⟨(hT.2 n).I,(hT.2 n).C,(hT.2 n).N⟩⟩
def T0:gh where
 I:=fun g a=>match g,a with
  | 12,[]=>some ([],.res (mz true) [] [])
  | _,_=>none
 C:=fun _ _ _=>none
 N:=fun _ _=>none
theorem gm (tk:oK aV):jU aV 0 T0:=by
 refine⟨fun _ _ _ h=>(by cases h),fun n=>⟨fun g a p s hs _ => ?_,fun _ _ _ _ _ hs=>(by cases hs),fun _ _ _ _ hs=>(by cases hs)⟩⟩
 simp only[T0] at hs
 split at hs
 ·cases hs
  intro bY hd
  rw[aF hd]
  refine⟨.val (.bool true),mz true,?_,rfl,by simp only[RT],rfl,rfl,trivial⟩
  simp only[xl,iS,tk.fit,DV.pure,DV.gV,if_true]
 ·cases hs
end Go.Tv
end
