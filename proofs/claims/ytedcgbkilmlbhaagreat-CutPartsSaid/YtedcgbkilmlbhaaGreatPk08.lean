import Derived.Test.YtedcgbkilmlbhaaGreatPk07
namespace Go.Tv
open Go Go.Di Go.Proofs
variable {P:Program} {ty:fI} {tt:TypeId→Option TT} {T:gD} {ι ι' w:lK} {S S':ak} {te mm:List TV} {env:List DV} {tS iT:List TB} {aI:bM} {call:bz} {yf:eE} {o:Oper} {ay nT:Nat} {B:List Nat} {r:TR} {ops:Array Oper} {L:Nat} {fn:FuncId} {gW:Bool} {fs:List cT}
theorem QV {md:Nat} (h:md≤2):md=0∨md=1∨md=2:=by omega
theorem Qn {α β:Type} {x:Option α} {f:α→β} {q:β×Prop} (h:x.map (fun a=>(f a,True))=some q):q.2:=by
 simp only[ah] at h
 obtain⟨_,_,rfl⟩:=h
 trivial
theorem F4 {q:TV×Prop} (hc:wM o=false) (h:bI P ty tt te tS o=some q):q.2:=by
 unfold wM at hc
 unfold bI at h
 cases ho:o.op
 all_goals simp only[ho] at hc h
 all_goals try (cases hc; done)
 all_goals repeat' (split at h)
 all_goals first
  | (cases h; done)
  | (cases h; trivial)
  | exact Qn h
  | (simp only[ah] at h; obtain⟨_,_,rfl⟩:=h; trivial)
theorem Qj {q:TR} (hc:wM o=false) (h:stepT P ty tt te tS o nT=some q):q.c:=by
 have hp:∀ {q:TR},((bI P ty tt te tS o).map fun r=>(⟨r.1,te,tS,tJ te o,r.2⟩:TR))=some q→q.c:=by
  intro q h
  simp only[ah] at h
  obtain⟨a,h1,rfl⟩:=h
  exact F4 hc h1
 unfold stepT at h
 split at h
 ·split at h
  ·cases h; trivial
  ·cases h
 ·split at h
  ·split at h
   ·cases h; trivial
   ·cases h
  ·cases h
 ·split at h
  ·split at h
   ·split at h
    ·simp only[ah] at h
     obtain⟨_,_,rfl⟩:=h
     trivial
    ·cases h
   ·cases h
  ·cases h
 ·rename_i ho
  simp only[wM,ho] at hc
  cases hc
 ·exact hp h
def Nb (o:Oper):Prop:=(∃ op t x y u,o.op = .binOp op t x y u)∨∃ op t x,o.op = .unOp op t x
theorem vN {v:TV} (hb:Nb o) (h:bI P ty tt te tS o=some (v,True)):stepT P ty tt te tS o nT=some ⟨v,te,tS,[],True⟩:=by
 rcases hb with ⟨op,t,x,y,u,ho⟩ | ⟨op,t,x,ho⟩<;>simp only[stepT,ho,h,Option.map_some,tJ]
theorem MD {v:TV} {c:Prop} (h:Ac te o=some (v,c)):Nb o:=by
 unfold Ac at h
 split at h
 ·rename_i ho; exact .inl ⟨_,_,_,_,_,ho⟩
 ·rename_i ho; exact .inl ⟨_,_,_,_,_,ho⟩
 ·rename_i ho; exact .inl ⟨_,_,_,_,_,ho⟩
 ·rename_i ho; exact .inr ⟨_,_,_,ho⟩
 ·rename_i ho; exact .inl ⟨_,_,_,_,_,ho⟩
 ·cases h
theorem Uo {b:Bool} (h:NT P te o=some b):Nb o:=by
 unfold NT at h
 split at h
 ·rename_i ho; exact .inl ⟨_,_,_,_,_,ho⟩
 ·rename_i ho; exact .inl ⟨_,_,_,_,_,ho⟩
 ·cases h
theorem YC (hb:Nb o):mC o=false:=by
 rcases hb with ⟨op,t,x,y,u,ho⟩ | ⟨op,t,x,ho⟩<;>simp only[mC,ho]
theorem Gs {g:FuncId} {targs:List TV} (h:JE tt te o=some (g,targs)):∃ f args argTypes fs cs xs,o.op = .call { callee := .value f,args,argTypes }∧gd te f=some (.fn g fs cs)∧mG te args.toList=some xs∧(fs++xs++cs).all dR=true∧bG (gq tt fs argTypes) (fs++xs++cs)=targs:=by
 unfold JE at h
 split at h
 ·rename_i f args argTypes ho
  split at h
  ·rename_i g' fs cs xs h1 h2
   split at h
   ·rename_i h3
    cases h
    exact⟨f,args,argTypes,fs,cs,xs,ho,h1,h2,h3,rfl⟩
   ·cases h
  ·cases h
 ·cases h
theorem L5 {g:FuncId} {kp:Nat} {targs ts:List TV} (h:HY tt te tS o=some (g,kp,targs,ts)):∃ f args argTypes fs cs xs,o.op = .call { callee := .value f,args,argTypes }∧gd te f=some (.fn g fs cs)∧mG te args.toList=some xs∧uV kp (gq tt fs argTypes) (fs++xs++cs)=some targs∧(fs++xs++cs).any isRef=true∧tS[kp]? = some (.cells ts)∧gh ts=[]:=by
 unfold HY at h
 split at h
 ·rename_i f args argTypes ho
  split at h
  ·rename_i g' fs cs xs h1 h2
   split at h
   ·split at h
    ·rename_i h4 h5
     split at h
     ·rename_i h6
      simp only[aB,List.isEmpty_iff] at h6
      cases h
      exact⟨f,args,argTypes,fs,cs,xs,ho,h1,h2,h4,h6.1,h5,h6.2⟩
     ·cases h
    ·cases h
   ·cases h
  ·cases h
 ·cases h
theorem L6 {g:FuncId} {kp:Nat} {targs ts:List TV} (h:HZ tt te tS o=some (g,kp,targs,ts)):∃ f args argTypes fs cs xs off rest,o.op = .call { callee := .value f,args,argTypes }∧gd te f=some (.fn g fs cs)∧mG te args.toList=some xs∧fs++xs++cs = .ptr kp off::rest∧rest.all dR=true∧tS[kp]? = some (.cells ts)∧ts.all uS=true∧targs = .ptr 0 off::bG (gq tt fs argTypes).tail rest:=by
 unfold HZ at h
 split at h
 ·rename_i f args argTypes ho
  split at h
  ·rename_i g' fs cs xs h1 h2
   split at h
   ·rename_i kp' off rest hl
    split at h
    ·rename_i vZ h5
     split at h
     ·rename_i h6
      simp only[aB] at h6
      cases h
      exact⟨f,args,argTypes,fs,cs,xs,off,rest,ho,h1,h2,hl,h6.1,h5,h6.2,rfl⟩
     ·cases h
    ·cases h
   ·cases h
  ·cases h
 ·cases h
theorem Gj {md:Nat} {v:TV} {cs:List TV} {K:Prop} (h:Fo md v cs K):(md=2→JA v=true∧cs.all uS=true)∧K:=by
 unfold Fo at h
 split at h
 ·split at h
  ·rename_i h1
   simp only[aB] at h1
   exact⟨fun _=>h1,h⟩
  ·exact h.elim
 ·rename_i hn
  exact⟨fun e=>(hn e).elim,h⟩
theorem ru {k:Nat}:∀ {tS:List TB} {i:Nat},k∈eY i tS↔i≤k∧∃ c,tS[k-i]? = some (.cells c)
 | [],i=>by simp[eY]
 | b::l,i=>by
  have ih:=ru (k:=k) (tS:=l) (i:=i+1)
  have hs:∀ (c:List TV),i+1≤k→((b::l)[k-i]? = some (.cells c)↔l[k-(i+1)]? = some (.cells c)):=fun c h=>by
   rw[show k-i=(k-(i+1))+1 by omega,List.getElem?_cons_succ]
  cases b with
  | cells c0 =>
   simp only[eY,bt,ih]
   constructor
   ·rintro(rfl | ⟨h1,c,h2⟩)
    ·exact⟨ai _,c0,by simp⟩
    ·exact⟨by omega,c,(hs c h1).2 h2⟩
   ·rintro⟨h1,c,h2⟩
    by_cases e:k=i
    ·exact .inl e
    ·exact .inr ⟨by omega,c,(hs c (by omega)).1 h2⟩
  | none =>
   simp only[eY,ih]
   constructor
   ·rintro⟨h1,c,h2⟩; exact⟨by omega,c,(hs c h1).2 h2⟩
   ·rintro⟨h1,c,h2⟩
    by_cases e:k=i
    ·subst e; simp at h2
    ·exact⟨by omega,c,(hs c (by omega)).1 h2⟩
  | map kt0 c0 =>
   simp only[eY,ih]
   constructor
   ·rintro⟨h1,c,h2⟩; exact⟨by omega,c,(hs c h1).2 h2⟩
   ·rintro⟨h1,c,h2⟩
    by_cases e:k=i
    ·subst e; simp at h2
    ·exact⟨by omega,c,(hs c (by omega)).1 h2⟩
  | rows t0 e0 c0 z0 =>
   simp only[eY,ih]
   constructor
   ·rintro⟨h1,c,h2⟩; exact⟨by omega,c,(hs c h1).2 h2⟩
   ·rintro⟨h1,c,h2⟩
    by_cases e:k=i
    ·subst e; simp at h2
    ·exact⟨by omega,c,(hs c (by omega)).1 h2⟩
  | own e0 s0 =>
   simp only[eY,ih]
   constructor
   ·rintro⟨h1,c,h2⟩; exact⟨by omega,c,(hs c h1).2 h2⟩
   ·rintro⟨h1,c,h2⟩
    by_cases e:k=i
    ·subst e; simp at h2
    ·exact⟨by omega,c,(hs c (by omega)).1 h2⟩
theorem Gf {k:Nat} {c:List TV} (h:tS[k]? = some (.cells c)):k∈eY 0 tS:=ru.2 ⟨jN _,c,h⟩
theorem Yh:nL (eY 0 tS) tS:=fun _ hk=>(ru.1 hk).2
mutual
theorem Ta (hi:∀ k,zn tS k=true→ι' k=ι k):∀ (v:TV) (d:DV),RT ι S v d→RT ι' S' (lJ tS v) d
 | .unk,_,_=>by simp only[lJ,RT]
 | .val _,d,k=>by cases d<;>simp only[RT,lJ] at k ⊢; exact k
 | .gY,d,k=>by cases d<;>simp only[RT,lJ] at k ⊢; exact k
 | .agg l,d,k=>by cases d<;>simp only[RT,lJ] at k ⊢; exact mq hi l _ k
 | .tup l,d,k=>by cases d<;>simp only[RT,lJ] at k ⊢; exact mq hi l _ k
 | .sl t l .no,d,k=>by cases d<;>simp only[RT,lJ] at k ⊢; exact k
 | .sl t l .full,d,k=>by cases d<;>simp only[RT,lJ] at k ⊢; exact k
 | .sl t l (.oR g),d,k=>by cases d<;>simp only[RT,lJ] at k ⊢; exact⟨k.1,trivial⟩
 | .ptr id off,d,k=>by
  cases d<;>simp only[RT] at k
  simp only[lJ]
  split
  ·rename_i hc
   simp only[RT]
   exact⟨(hi _ hc).trans k.1,k.2⟩
  ·simp only[RT]
 | .ey t l i off,d,k=>by cases d<;>simp only[RT,lJ] at k ⊢; exact k
 | .mp id,d,_=>by simp only[RT,lJ]
 | .so g t,d,_=>by simp only[RT,lJ]
 | .sp g t i off,d,_=>by simp only[RT,lJ]
 | .fn f a b,d,k=>by cases d<;>simp only[RT,lJ] at k ⊢; exact⟨k.1,mq hi a _ k.2.1,mq hi b _ k.2.2⟩
theorem mq (hi:∀ k,zn tS k=true→ι' k=ι k):∀ (l:List TV) (m:List DV),cQ ι S l m→cQ ι' S' (ov tS l) m
 | [],m,k=>by rw[aU k]; simp only[ov]; exact bS
 | a::l,m,k=>by
  obtain⟨d,m',rfl,h1,h2⟩:=ax k
  simp only[ov]
  exact aV (Ta hi a d h1) (mq hi l m' h2)
end
def KX (call:bz) (g:FuncId) (A:List TV) (tS:List TB) (K:TV→List TB→Prop):Prop :=
 ∀ ι bY S,b9 ι A tS bY S→∃ d S' ι' v cu,call g bY S=some (d,S')∧b9 ι' [v] cu [d] S'∧nL (eY 0 tS) cu∧Fr (eY 0 tS) ι S ι' S'∧Nn S.length S S'∧K v cu
theorem QE {f:Operand} {args:Array Operand} {argTypes:Array TypeId} {g:FuncId} {fs cs xs:List TV} {K:TV→List TB→Prop} (hop:o.op = .call { callee := .value f,args,argTypes }) (hf:gd te f=some (.fn g fs cs)) (ha:mG te args.toList=some xs) (hr:(fs++xs++cs).any isRef=true∨ty.h o=1)
  (hc:KX call g (fs++xs++cs) tS K):Does P ty aI call yf B o nT te tS false fun v ck cu _=>ck=ov tS te∧K v cu:=by
 intro ι w env S ay hR hB hw hT Ht hS
 obtain⟨y6,iB,Jc,k1,k2,k3⟩:=jq hR.env hf ha
 obtain⟨d,S',ι',v,cu,m1,m2,m3,m4,m5,m6⟩:=hc ι _ S ⟨k3,hR.cells,hR.own,hR.xI,hR.inj,hR.mp⟩
 obtain⟨w',hw'⟩:=HK m2
 obtain⟨_,_,e,m7,-⟩:=ax m2.env
 cases e
 have aaj:∀ k,k∈B→k∈eY 0 tS:=fun k hk=>by obtain⟨l,h1⟩:=hB k hk; exact Gf h1
 refine⟨d,S',ι',w',v,ov tS te,cu,⟨none,true⟩,⟨none,true⟩,fun _ => ?_,fun e=>(by cases e),⟨fun e=>e,fun l hl=>(by cases hl)⟩,fun l m hl=>(by cases hl),⟨mq (fun k hk => ?_) _ _ hR.env,m2.cells,m2.own,m2.xI,m2.inj,m2.mp⟩,m7,hw',fun e=>(by cases e),⟨m4.rest,m4.ours,fun k hk=>m4.base k (aaj k hk)⟩,fun k hk=>m3 k (aaj k hk),⟨m5.1,fun j hj eG=>m5.2 j (by have:=(aJ.1 eG).1; omega) eG⟩,rfl,m6⟩
 ·rcases hr with hr | hr
  ·have:=tW hr k3
   simp only[af,hop,k1,k2,uU,this,aD,if_false,m1]
   split<;>rfl
  ·simp only[af,hop,k1,k2,hr,m1]
 ·unfold zn at hk
  split at hk
  ·rename_i c hc; exact m4.base k (Gf hc)
  ·cases hk
theorem TY {md:Nat} {A:List TV} {fn:Func} {j:List (Nat×LA)} (h:WG ty T md te o=some (A,fn,j)):md=0∧∃ f args argTypes g fs cs xs,o.op = .call { callee := .value f,args,argTypes }∧gd te f=some (.fn g fs cs)∧mG te args.toList=some xs∧((fs++xs++cs).any isRef=true∨ty.h o=1)∧A=fs++xs++cs∧T.X g=some (fn,j):=by
 unfold WG at h
 split at h
 ·split at h
  ·rename_i g A' h1
   split at h
   ·rename_i wj j' h2
    cases h
    unfold aaf at h1
    split at h1
    ·rename_i f args argTypes ho
     split at h1
     ·rename_i g' fs cs xs e1 e2
      split at h1
      ·rename_i hr
       cases h1
       exact⟨rfl,f,args,argTypes,g,fs,cs,xs,ho,e1,e2,by simpa using hr,rfl,h2⟩
      ·cases h1
     ·cases h1
    ·cases h1
   ·cases h
  ·cases h
 ·cases h
theorem oC {b:Bool} {c:Prop} (h:WA ty te o=some (b,c)) (hc:c):(∃ op t x y u,o.op = .binOp op t x y u)∧∀ {env:List DV},cQ ι S te env→∀ ay,af P ty aI call yf (gX env) o S ay=some (.val (.bool b),S):=by
 unfold WA at h
 split at h
 ·rename_i t x y _ ho
  refine⟨⟨_,_,_,_,_,ho⟩,fun {env} hE ay => ?_⟩
  split at h
  ·rename_i h1 h2 h3
   cases h
   obtain⟨d1,k1,k2⟩:=bg hE h2
   obtain⟨d2,k3,k4⟩:=bg hE h3
   cases d1<;>simp only[RT] at k2
   cases d2<;>simp only[RT] at k4
   obtain⟨rfl,rfl,rfl⟩:=k4
   rename_i rows tok f
   have hr:rows.isEmpty=false:=by
    have:=ja k2.1
    cases rows with
    | nil=>exact absurd (dm (by simpa using this.symm)) hc
    | cons=>rfl
   simp only[af,ho,valOf,k1,k3,Option.bind_some,xK,zU,h1,HD,hr,aD,if_false,Option.map_some]
  ·rename_i h1 h2 h3
   cases h
   obtain⟨d1,k1,k2⟩:=bg hE h2
   obtain⟨d2,k3,k4⟩:=bg hE h3
   cases d1<;>simp only[RT] at k2
   cases d2<;>simp only[RT] at k4
   obtain⟨rfl,rfl,rfl⟩:=k4
   obtain⟨rfl,rfl,rfl⟩:=k2
   simp only[af,ho,valOf,k1,k3,Option.bind_some,xK,zU,h1,HD,List.isEmpty_nil,if_true,Option.map_some]
  ·cases h
 ·cases h
theorem Gk {b:Value} (hb:∃ op t x y u,o.op = .binOp op t x y u) (h:∀ {ι:lK} {S:ak} {env:List DV},cQ ι S te env→∀ ay,af P ty aI call yf (gX env) o S ay=some (.val b,S)) (dr:Bool):Does P ty aI call yf B o nT te tS dr fun v ck cu ft=>v = .val b∧ck=te∧cu=tS∧ft=⟨some [],false⟩:=by
 intro ι w env S ay hR hB hw hT hn hS
 obtain⟨op,t,x,y,u,ho⟩:=hb
 refine⟨.val b,S,ι,w,.val b,te,tS,⟨some [],false⟩,⟨some [],false⟩,fun _=>h hR.env ay,fun _ => ?_,⟨id,fun l hl=>⟨[],rfl,fun j hj=>(by cases hj)⟩⟩,fun l m _ hm j hj=>(by cases hm; cases hj),hR,by simp only[RT],hw,fun _ _ _=>rfl,Fr.refl _ _ _,hB,eX _ _,rfl,rfl,rfl,rfl⟩
 have:=h hR.env ay
 simp only[aF,ho]
 rw[this]; rfl
theorem XA {k:Nat} {b:Value} {Q:List TV→Prop} (ho:ops[k]? = some o) (hw:dK ops te o=some true) (hb:∃ op t x y u,o.op = .binOp op t x y u) (h:∀ {ι:lK} {S:ak} {env:List DV},cQ ι S te env→∀ ay,af P ty aI call yf (gX env) o S ay=some (.val b,S)) (hq:WQ P ty aI call yf ops tS (k+1) (lF te o.dst (.val b)) Q):WQ P ty aI call yf ops tS k te Q:=by
 intro ι env S hR
 obtain⟨aC,ck,n1,n2,n3⟩:=hq ι (iM env o.dst (.val b)) S (lP hR (by simp only[RT]) _)
 refine⟨aC,ck,?_,n2,n3⟩
 rw[lV ho]
 have hs:=h hR.env S.length
 obtain⟨op,t,x,y,u,hop⟩:=hb
 have hq:cF P ty aI call yf (gX env) o S=some (.val b):=by
  simp only[cF,hop]
  rw[hs]; rfl
 simp only[nN,gA hR.env hw,if_true,hq,n1]
def BG (P:Program) (ty:fI) (aI:bM) (call:bz) (yf:eE) (B:List Nat) (ops:Array Oper) (Q:List TV→List TB→Prop) (md:Nat) (oO:List TB) (k:Nat) (te:List TV) (tS:List TB) (fs:List cT):Prop :=
 match md with
 | 0=>WL P ty aI call yf B ops k te tS Q
 | 1=>tS=oO→WQ P ty aI call yf ops oO k te fun te=>Q te oO
 | _=>WD P ty aI call yf B ops k te tS fs Q
theorem DZ {Q:List TV→List TB→Prop} {md k:Nat} {oO:List TB} (qz:md≤2) (ho:ops[k]? = some o) (hw:dK ops te o=some false) {K:KO} (hK:∀ te tS fs,K te tS fs→BG P ty aI call yf B ops Q md oO (k+1) te tS fs) (h:Jp o te tS fs K):BG P ty aI call yf B ops Q md oO k te tS fs:=by
 have h1:=hK _ _ _ (gO (K:=fun te=>K te tS (fs++[fT])) h)
 rcases QV qz with rfl | rfl | rfl
 ·exact SE ho hw h1
 ·exact fun e=>SD ho hw (h1 e)
 ·exact SL ho hw h1
variable {inl:Z5}
def x4 (call:bz) (T:gD) (inl:Z5):Prop:=∀ g fn j A tS (K:TV→List TB→Prop),T.X g=some (fn,j)→inl fn j A tS K→KX call g A tS K
def NV (ty:fI) (md:Nat) (o:Oper) (yE:List TV) (we:List TB) (te:List TV) (tS:List TB):Prop :=
 match md with
 | 0=>Hy ty yE we o=some (te,tS)
 | _=>yE=te∧we=tS
theorem FZ (hT:qi T aI call) {Q:List TV→List TB→Prop} {md n0 k:Nat} {oO we:List TB} {yE:List TV} (qz:md≤2) (ho:ops[k]? = some o) (hw:dK ops yE o=some true) (oV:NV ty md o yE we te tS) {K:KO} (hK:∀ te tS fs,K te tS fs→BG P ty aI call yf B ops Q md oO (k+1) te tS fs)
  (hn:BM tS (tC md n0 k tS)=true) (hh:md=0∨ty.h o≠1) (h:DD tt T md o te tS fs K):BG P ty aI call yf B ops Q md oO k yE we fs:=by
 unfold DD at h
 split at h
 ·rename_i g kp targs ts hc
  split at h
  ·rename_i p s hs
   obtain⟨hp,h⟩:=iH h
   have hsp:=hT.C _ _ _ _ _ hs hp
   have all:∀ v cs,s.holds v cs→Fo md v cs (gp v fun v=>iC te o.dst v fun te=>dx cs fun cs=>cS (tS.set kp (.cells cs)) fun tS=>K te tS (fs++[zN md kp])):=fun v cs hv =>
    MF (R:=fun v cs=>Fo md v cs (gp v fun v=>iC te o.dst v fun te=>dx cs fun cs=>cS (tS.set kp (.cells cs)) fun tS=>K te tS (fs++[zN md kp]))) h hv
   have fin:∀ v cs,s.holds v cs→BG P ty aI call yf B ops Q md oO (k+1) (lF te o.dst v) (tS.set kp (.cells cs)) (fs++[zN md kp]):=fun v cs hv=>by
    have h1:=gO (ga v (K:=fun v=>iC te o.dst v fun te=>dx cs fun cs=>cS (tS.set kp (.cells cs)) fun tS=>K te tS (fs++[zN md kp])) (Gj (all v cs hv)).2)
    exact hK _ _ _ (dg _ (K:=fun tS=>K _ tS (fs++[zN md kp])) (cr cs (K:=fun cs=>cS (tS.set kp (.cells cs)) fun tS=>K _ tS (fs++[zN md kp])) h1))
   rcases QV qz with rfl | rfl | rfl
   ·obtain⟨f,args,argTypes,fs1,cs1,xs,c1,c2,c3,c4,c5,c6,c7⟩:=L5 (tt:=tt) hc
    refine mP ho hw oV (I5 c1 c2 c3 c4 c5 c6 c7 hsp) ?_
    rintro v ck cu ft ⟨vZ,hv,rfl,rfl,-⟩
    exact fin v vZ hv
   ·cases hc
   ·obtain⟨f,args,argTypes,fs1,cs1,xs,off,rest,c1,c2,c3,c4,c5,c6,c7,rfl⟩:=L6 (tt:=tt) hc
    obtain⟨rfl,rfl⟩:=oV
    refine xJ ho hw hn (GX (tt:=tt) c1 (hh.resolve_left (by decide)) c2 c3 c4 c5 c6 c7 hsp fun v cs hv=>(Gj (all v cs hv)).1 rfl) ?_
    rintro v ck cu ft ⟨vZ,hv,rfl,rfl,rfl⟩
    exact fin v vZ hv
  ·exact h.elim
 ·exact h.elim
theorem Ur (hT:qi T aI call) (hI:x4 call T inl) {Q:List TV→List TB→Prop} {md n0 k:Nat} {oO we:List TB} {yE:List TV} (qz:md≤2) (ho:ops[k]? = some o) (hw:dK ops yE o=some true) (oV:NV ty md o yE we te tS) {K:KO} (hK:∀ te tS fs,K te tS fs→BG P ty aI call yf B ops Q md oO (k+1) te tS fs)
  (hn:BM tS (tC md n0 k tS)=true) (h:Ox ty tt T inl md (tC md n0 k tS) o te tS fs K):BG P ty aI call yf B ops Q md oO k yE we fs:=by
 unfold Ox at h
 split at h
 ·rename_i A fn j hx
  obtain⟨rfl,f,args,argTypes,g,fs1,cs1,xs,c1,c2,c3,c4,rfl,c5⟩:=TY hx
  refine mP ho hw oV (QE c1 c2 c3 c4 (hI g fn j _ tS _ c5 h)) ?_
  rintro v ck cu ft ⟨rfl,hv⟩
  exact hK _ _ _ (gO (K:=fun te=>K te cu fs) (cr (ov tS te) (K:=fun te=>iC te o.dst v fun te=>K te cu fs) (ga v (K:=fun v=>dx (ov tS te) fun te=>iC te o.dst v fun te=>K te cu fs) hv)))
 split at h
 ·rename_i hh
  replace hh:ty.h o=1:=by simpa using hh
  split at h
  ·exact FZ hT qz ho hw oV hK hn (.inl rfl) h
  ·rename_i g targs hc _
   obtain⟨f,args,argTypes,fs1,cs1,xs,c1,c2,c3,c4,c5⟩:=Gs hc
   split at h
   ·rename_i p e s hs
    obtain⟨hp,h⟩:=iH h
    obtain⟨rfl,rfl⟩:=oV
    refine xJ ho hw hn (I7 c1 hh c2 c3 c4 c5 (hT.O _ _ _ _ _ _ hs hp)) ?_
    rintro v ck cu ft ⟨tl,t,B3,hv,hf,rfl,rfl,rfl,rfl⟩
    have h1:=Bl (R:=fun v=>N6 e (tC 2 n0 k we) (ty.Ny o) v fun v b=>gp v fun v=>iC ck o.dst v fun te=>cS (nM we (tC 2 n0 k we) b) fun tS=>K te tS (fs++[⟨some [tC 2 n0 k we],true⟩])) h hv
    simp only[N6,hf] at h1
    exact hK _ _ _ (dg _ (K:=fun tS=>K _ tS (fs++[⟨some [tC 2 n0 k we],true⟩])) (gO (ga _ (K:=fun v=>iC ck o.dst v fun te=>cS (nM we (tC 2 n0 k we) (.rows t e B3 false)) fun tS=>K te tS (fs++[⟨some [tC 2 n0 k we],true⟩])) h1)))
   ·exact h.elim
  ·exact h.elim
 rename_i hh
 replace hh:ty.h o≠1:=by simpa using hh
 split at h
 ·rename_i g targs hc
  obtain⟨f,args,argTypes,fs1,cs1,xs,c1,c2,c3,c4,c5⟩:=Gs hc
  split at h
  ·rename_i p s hm hs
   have hm:md=0:=by simpa using hm
   subst hm
   obtain⟨hp,h⟩:=iH h
   refine mP ho hw oV (I8 c1 hh c2 c3 c4 c5 (hT.N _ _ _ _ hs hp)) ?_
   rintro v ck cu ft ⟨ts,hq,rfl,rfl,rfl⟩
   have e:nM tS tS.length (.cells ts)=tS++[.cells ts]:=by unfold nM; rw[if_neg (Nat.lt_irrefl _)]
   rw[e]
   exact hK _ _ _ (gO (K:=fun te=>K te (tS++[.cells ts]) fs) (Jb (R:=fun cs=>iC ck o.dst (.ptr tS.length 0) fun te=>K te (tS++[.cells cs]) fs) h hq))
  ·split at h
   ·rename_i p s hs
    obtain⟨hp,h⟩:=iH h
    have hsp:=hT.I _ _ _ _ hs hp
    have fin:∀ v,s.lu v→BG P ty aI call yf B ops Q md oO (k+1) (lF te o.dst v) tS (fs++[fT]):=fun v hv =>
     hK _ _ _ (gO (K:=fun te=>K te tS (fs++[fT])) (ga v (K:=fun v=>iC te o.dst v fun te=>K te tS (fs++[fT])) (Bl (R:=fun v=>gp v fun v=>iC te o.dst v fun te=>K te tS (fs++[fT])) h hv)))
    rcases QV qz with rfl | rfl | rfl
    ·skip
     refine mP ho hw oV (Bj c1 hh c2 c3 c4 c5 hsp false) ?_
     rintro v ck cu ft ⟨hv,rfl,rfl,-⟩
     exact fin v hv
    ·obtain⟨rfl,rfl⟩:=oV
     exact fun e=>Pm ho hw c1 hh c2 c3 c4 c5 hsp fun v hv=>fin v hv e
    ·skip
     obtain⟨rfl,rfl⟩:=oV
     refine xJ ho hw hn (Bj c1 hh c2 c3 c4 c5 hsp true) ?_
     rintro v ck cu ft ⟨hv,rfl,rfl,rfl⟩
     exact fin v hv
   ·exact h.elim
 ·exact FZ hT qz ho hw oV hK hn (.inr hh) h
theorem FV {Q:List TV→List TB→Prop} {md n0 k:Nat} {oO we:List TB} {yE:List TV} (qz:md≤2) (ho:ops[k]? = some o) (hw:dK ops yE o=some true) (oV:NV ty md o yE we te tS) {K:KO} (hK:∀ te tS fs,K te tS fs→BG P ty aI call yf B ops Q md oO (k+1) te tS fs)
  (hn:BM tS (tC md n0 k tS)=true) {v:TV} (hb:Nb o) (hp:bI P ty tt te tS o=some (v,True)) (h:iC te o.dst v fun te=>K te tS (fs++[fT])):BG P ty aI call yf B ops Q md oO k yE we fs:=by
 have h1:=hK _ _ _ (gO (K:=fun te=>K te tS (fs++[fT])) h)
 rcases QV qz with rfl | rfl | rfl
 ·skip
  refine mP ho hw oV (sw (vN hb hp) trivial false) ?_
  rintro v' ck cu ft ⟨rfl,rfl,rfl,-⟩
  exact h1
 ·obtain⟨rfl,rfl⟩:=oV
  exact fun e=>JM ho hw (e▸hp) trivial (h1 e)
 ·skip
  obtain⟨rfl,rfl⟩:=oV
  refine xJ ho hw hn (sw (vN hb hp) trivial true) ?_
  rintro v' ck cu ft ⟨rfl,rfl,rfl,rfl⟩
  rw[YC hb]
  exact h1
theorem OQ (hT:qi T aI call) (hI:x4 call T inl) {Q:List TV→List TB→Prop} {md n0 k:Nat} {oO we:List TB} {yE:List TV} (qz:md≤2) (ho:ops[k]? = some o) (hw:dK ops yE o=some true) (oV:NV ty md o yE we te tS) {K:KO} (hK:∀ te tS fs,K te tS fs→BG P ty aI call yf B ops Q md oO (k+1) te tS fs)
  (h:RP P ty tt T inl md n0 k o te tS fs K):BG P ty aI call yf B ops Q md oO k yE we fs:=by
 unfold RP at h
 split at h
 ·exact h.elim
 ·rename_i hn
  split at h
  ·exact Ur hT hI qz ho hw oV hK hn h
  ·split at h
   ·rename_i v ck cu f c hm
    obtain⟨hc,h⟩:=h
    have h1:=gO (cr ck (K:=fun te=>iC te o.dst v fun te=>cS cu fun tS=>K te tS (fs++[f])) (ga v (K:=fun v=>dx ck fun te=>iC te o.dst v fun te=>cS cu fun tS=>K te tS (fs++[f])) h))
    have h1:=hK _ _ _ (dg cu (K:=fun tS=>K _ tS (fs++[f])) h1)
    unfold Vm at hm
    split at hm
    ·rename_i v2 g c2 hr
     cases hm
     rcases QV qz with rfl | rfl | rfl
     ·refine mP ho hw oV (Bi hr hc false) ?_
      rintro v' te2 Uy ft ⟨rfl,rfl,rfl,rfl⟩
      exact h1
     ·obtain⟨rfl,rfl⟩:=oV
      exact fun e=>Pk ho hw (e▸hr) hc (h1 e)
     ·obtain⟨rfl,rfl⟩:=oV
      refine xJ ho hw hn (Bi hr hc true) ?_
      rintro v' te2 Uy ft ⟨rfl,rfl,rfl,rfl⟩
      exact h1
    ·split at hm
     ·cases hm
     rename_i h91
     split at hm
     ·rename_i g Uy hs
      cases hm
      rcases QV qz with rfl | rfl | rfl
      ·refine mP ho hw oV (Bh hs false) ?_
       rintro v' te2 Uy ft ⟨rfl,rfl,rfl,rfl⟩
       exact h1
      ·exact absurd rfl h91
      ·obtain⟨rfl,rfl⟩:=oV
       refine xJ ho hw hn (Bh hs true) ?_
       rintro v' te2 Uy ft ⟨rfl,rfl,rfl,rfl⟩
       exact h1
     ·split at hm
      ·rename_i h90
       subst h90
       simp only[ah,av] at hm
       obtain⟨⟨v2,te2,Uy,c2⟩,hs,rfl,rfl,rfl,rfl,rfl⟩:=hm
       refine mP ho hw oV (I6 hs hc) ?_
       rintro v' te3 tS3 ft ⟨rfl,rfl,rfl⟩
       exact h1
      ·cases hm
   split at h
   ·rename_i v cu c hm
    have h0:md=0:=by
     unfold mapM at hm
     split at hm
     ·rfl
     ·cases hm
    subst h0
    refine mP ho hw oV (QD hm h.1) ?_
    rintro v' ck Uy ft ⟨rfl,rfl,rfl⟩
    have h1:=gO (ga v' (K:=fun v=>iC ck o.dst v fun te=>cS Uy fun tS=>K te tS (fs++[⟨none,true⟩])) h.2)
    exact hK _ _ _ (dg Uy (K:=fun tS=>K _ tS (fs++[⟨none,true⟩])) h1)
   split at h
   ·rename_i v c ha
    exact FV qz ho hw oV hK hn (MD ha) (Ja (tt:=tt) ha h.1) h.2
   ·split at h
    ·rename_i b _ hb
     exact FV qz ho hw oV hK hn (Uo hb) (QI (tt:=tt) hb) h
    ·rename_i b c _ _ hb
     obtain⟨hc,h⟩:=h
     have h1:=hK _ _ _ (gO (K:=fun te=>K te tS (fs++[fT])) h)
     rcases QV qz with rfl | rfl | rfl
     ·refine mP ho hw oV (Gk (oC (P:=P) (aI:=aI) (call:=call) (yf:=yf) (ι:=eB) (S:=[]) hb hc).1 (fun hE ay=>(oC hb hc).2 hE ay) false) ?_
      rintro v' ck cu ft ⟨rfl,rfl,rfl,-⟩
      exact h1
     ·obtain⟨rfl,rfl⟩:=oV
      exact fun e=>XA ho hw (oC (P:=P) (aI:=aI) (call:=call) (yf:=yf) (ι:=eB) (S:=[]) hb hc).1 (fun hE ay=>(oC hb hc).2 hE ay) (h1 e)
     ·obtain⟨rfl,rfl⟩:=oV
      refine xJ ho hw hn (Gk (oC (P:=P) (aI:=aI) (call:=call) (yf:=yf) (ι:=eB) (S:=[]) hb hc).1 (fun hE ay=>(oC hb hc).2 hE ay) true) ?_
      rintro v' ck cu ft ⟨rfl,rfl,rfl,rfl⟩
      exact h1
    ·have key:md≠1→∀ q:TR,stepT P ty tt te tS o (tC md n0 k tS)=some q→q.c→K (lF q.te o.dst q.v) q.tS (fs++[⟨some q.Dy,mC o⟩])→BG P ty aI call yf B ops Q md oO k yE we fs:=by
      intro hm q hq hc hk
      have h1:=hK _ _ _ hk
      rcases QV qz with rfl | rfl | rfl
      ·skip
       refine mP ho hw oV (sw hq hc false) ?_
       rintro v' ck cu ft ⟨rfl,rfl,rfl,-⟩
       exact h1
      ·exact(hm rfl).elim
      ·skip
       obtain⟨rfl,rfl⟩:=oV
       refine xJ ho hw hn (sw hq hc true) ?_
       rintro v' ck cu ft ⟨rfl,rfl,rfl,rfl⟩
       exact h1
     split at h
     ·split at h
      ·rename_i q hq
       have fin:∀ {R:Prop},q.2→K (lF te o.dst q.1) tS (fs++[fT])→BG P ty aI call yf B ops Q 1 oO k yE we fs:=fun {_} hc hk=>by
        obtain⟨h8,h9⟩:=oV
        subst h8 h9
        exact fun e=>JM ho hw (e▸(show bI P ty tt yE we o=some (q.1,q.2) from hq)) hc (hK _ _ _ hk e)
       split at h
       ·exact fin (R:=True) h.1 (gO (K:=fun te=>K te tS (fs++[fT])) (ga q.1 (K:=fun v=>iC te o.dst v fun te=>K te tS (fs++[fT])) h.2))
       ·rename_i mM
        exact fin (R:=True) (F4 mM hq) (gO (K:=fun te=>K te tS (fs++[fT])) (ga q.1 (K:=fun v=>iC te o.dst v fun te=>K te tS (fs++[fT])) h))
      ·exact h.elim
     ·rename_i hm
      split at h
      ·rename_i q hq
       split at h
       ·refine key (fun e=>hm e) q hq h.1 ?_
        have h1:=cr q.te (ga q.v (K:=fun v=>dx q.te fun te=>iC te o.dst v fun te=>cS q.tS fun tS=>K te tS (fs++[⟨some q.Dy,mC o⟩])) h.2)
        exact dg q.tS (K:=fun tS=>K _ tS _) (gO h1)
       ·rename_i mM
        refine key (fun e=>hm e) q hq (Qj mM hq) ?_
        have h1:=gO (ga q.v (K:=fun v=>iC q.te o.dst v fun te=>cS q.tS fun tS=>K te tS (fs++[⟨some q.Dy,mC o⟩])) h)
        exact dg q.tS (K:=fun tS=>K _ tS _) h1
      ·exact h.elim
theorem FL {n:Int} {K:Nat→Prop}:∀ (c j:Nat),HP n K c j→∃ i:Nat,n=i∧K i
 | 0,_,h=>h.elim
 | c+1,j,h=>by
  obtain⟨h1,h2⟩:=rW h
  by_cases e:n=(j:Int)
  ·exact⟨j,e,h1 (iF e)⟩
  ·exact FL c (j+1) (h2 (fe e))
theorem YE {t c:Nat} {n:Int} (h:Xj ty te o=some (t,n,c)):te[t]? = some (.val (.int .i64 n)):=by
 unfold Xj at h
 split at h
 ·split at h
  ·rename_i h1 h2; cases h; exact h2
  ·cases h
 ·split at h
  ·rename_i h1 h2; cases h; exact h2
  ·cases h
 ·cases h
theorem OP (hT:qi T aI call) (hI:x4 call T inl) {Q:List TV→List TB→Prop} {md n0 k:Nat} {oO we:List TB} {yE:List TV} (qz:md≤2) (ho:ops[k]? = some o) (hw:dK ops yE o=some true) (oV:NV ty md o yE we te tS) {K:KO} (hK:∀ te tS fs,K te tS fs→BG P ty aI call yf B ops Q md oO (k+1) te tS fs)
  (h:La P ty tt T inl md n0 k o te tS fs K):BG P ty aI call yf B ops Q md oO k yE we fs:=by
 unfold La at h
 split at h
 ·rename_i t n c ha
  obtain⟨i,rfl,hi⟩:=FL _ _ h
  have:=nA te t _ hi
  rw[mS (YE ha)] at this
  exact OQ hT hI qz ho hw oV hK this
 ·exact OQ hT hI qz ho hw oV hK h
theorem N8 (hT:qi T aI call) (hI:x4 call T inl) {Q:List TV→List TB→Prop} {md n0 k:Nat} {oO:List TB} (qz:md≤2) (ho:ops[k]? = some o) (hw:dK ops te o=some true) {K:KO} (hK:∀ te tS fs,K te tS fs→BG P ty aI call yf B ops Q md oO (k+1) te tS fs)
  (h:Zm P ty tt T inl md n0 k o te tS fs K):BG P ty aI call yf B ops Q md oO k te tS fs:=by
 unfold Zm at h
 split at h
 ·split at h
  ·rename_i mm iT hp
   exact OP hT hI qz ho hw hp hK (dg iT (K:=fun tS=>La P ty tt T inl 0 n0 k o mm tS fs K) (cr mm (K:=fun te=>cS iT fun tS=>La P ty tt T inl 0 n0 k o te tS fs K) h))
  ·exact h.elim
 ·rename_i hno
  refine OP hT hI qz ho hw ?_ hK h
  rcases QV qz with rfl | rfl | rfl
  ·show Hy ty te tS o=some (te,tS)
   unfold Hy
   split
   ·rename_i h2; exact(hno rfl h2).elim
   ·rfl
  ·exact⟨rfl,rfl⟩
  ·exact⟨rfl,rfl⟩
theorem VF {b:Bool} (h:ZY ops te o = .no b):dK ops te o=some b:=by
 unfold ZY at h
 unfold dK
 split at h
 ·cases h; rename_i e; rw[e]
 ·rename_i e
  rw[e]
  dsimp only
  split at h
  ·rename_i e1
   rw[e1]
   dsimp only
   split at h
   ·cases h
   ·cases h
   ·cases h
    rename_i v hv e2
    rw[e2]
    split<;>simp_all
   ·cases h
  ·cases h; rename_i e1; rw[e1]
theorem Ys {d:Tmp} {b want:Bool} (h:ZY ops te o = .ask d b want):te[d]? = some (.val (.bool b))∧dK ops te o=some (match want with | true=>b | false => !b):=by
 unfold ZY at h
 unfold dK
 split at h
 ·cases h
 ·rename_i e
  rw[e]
  dsimp only
  split at h
  ·rename_i e1
   rw[e1]
   dsimp only
   split at h
   ·cases h; rename_i e2; rw[e2]; cases want<;>exact⟨rfl,rfl⟩
   ·cases h
   ·cases h
   ·cases h
  ·cases h
theorem zQ (hT:qi T aI call) (hI:x4 call T inl) {Q:List TV→List TB→Prop} {md n0:Nat} {oO:List TB} (qz:md≤2) {K:KO} (hK:∀ te tS fs,K te tS fs→BG P ty aI call yf B ops Q md oO ops.size te tS fs) :
  ∀ (r:List Oper) (k:Nat) (te:List TV) (tS:List TB) (fs:List cT),ops.toList.drop k=r→nt P ty tt T inl md n0 ops r k te tS fs K→BG P ty aI call yf B ops Q md oO k te tS fs
 | [],k,te,tS,fs,hr,h=>by
  have hk:ops.size≤k:=by
   have:=List.drop_eq_nil_iff.1 hr
   simpa using this
  have h1:=hK te tS fs h
  rcases QV qz with rfl | rfl | rfl
  ·intro ι env S hR hB; have:=h1 ι env S hR hB; rw[gz (by simp)] at this; rw[gz (by simpa using hk)]; exact this
  ·intro e ι env S hR; have:=h1 e ι env S hR; rw[gz (by simp)] at this; rw[gz (by simpa using hk)]; exact this
  ·skip
   intro ι w env S n0 hR hB hw hn
   have:=h1 ι w env S n0 hR hB hw (fun j hj yY=>by omega)
   rw[gz (by simp)] at this
   rw[gz (by simpa using hk)]
   obtain⟨aC,S',y6,ι',w',ck,cu,ft,e1,e2,e3,e4,e5,e6,e7,e8,e9⟩:=this
   exact⟨aC,S',y6,ι',w',ck,cu,ft,e1,e2,fun j _=>e3 j fun i hi Bu=>by omega,e4,e5,e6,e7,⟨e8.1,fun j _ hn=>e8.2 j (fun i hi Bu=>by omega) hn⟩,e9⟩
 | o::r,k,te,tS,fs,hr,h=>by
  obtain⟨ho,xE⟩:=GR hr
  have ih:∀ te tS fs,nt P ty tt T inl md n0 ops r (k+1) te tS fs K→BG P ty aI call yf B ops Q md oO (k+1) te tS fs:=fun te tS fs=>zQ hT hI qz hK r (k+1) te tS fs xE.symm
  simp only[nt] at h
  split at h
  ·rename_i hg
   exact N8 hT hI qz ho (VF hg) ih h
  ·rename_i hg
   exact DZ qz ho (VF hg) ih h
  ·rename_i d b want hg
   obtain⟨h1,h2⟩:=Ys hg
   split at h
   ·obtain⟨k1,k2⟩:=rW h
    cases b with
    | true=>have:=nA te d _ (k1 rfl); rw[mS h1] at this; exact N8 hT hI qz ho h2 ih this
    | false=>have:=nA te d _ (k2 rfl); rw[mS h1] at this; exact DZ qz ho h2 ih this
   ·obtain⟨k1,k2⟩:=rW h
    cases b with
    | true=>have:=nA te d _ (k1 rfl); rw[mS h1] at this; exact DZ qz ho h2 ih this
    | false=>have:=nA te d _ (k2 rfl); rw[mS h1] at this; exact N8 hT hI qz ho h2 ih this
  ·exact h.elim
end Go.Tv
