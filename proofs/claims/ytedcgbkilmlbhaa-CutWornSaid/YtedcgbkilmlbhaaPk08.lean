import Derived.Test.YtedcgbkilmlbhaaPk07
section
namespace Go.Tv
open Go Go.Di Go.Proofs
variable {P:Program} {ty:eS} {tt:TypeId→Option TT} {T:gN} {ι ι' w:jR} {S S':ak} {te kY:List TV} {env:List DV} {tS iu:List TB} {aD:bq} {call:bg} {yf:dF} {o:Oper} {ay nT:Nat} {B:List Nat} {r:TR} {ops:Array Oper} {L:Nat} {fn:FuncId} {gJ:Bool} {fs:List cz}
theorem O2 {md:Nat} (h:md≤2):md=0∨md=1∨md=2:=by omega
theorem On {α β:Type} {x:Option α} {f:α→β} {q:β×Prop} (h:x.map (fun a=>(f a,True))=some q):q.2:=by
 simp only[Option.map_eq_some_iff] at h
 obtain⟨_,_,rfl⟩:=h
 trivial
theorem Ei {q:TV×Prop} (hc:uv o=false) (h:bh P ty tt te tS o=some q):q.2:=by
 unfold uv at hc
 unfold bh at h
 cases ho:o.op
 all_goals simp only[ho] at hc h
 all_goals try (cases hc; done)
 all_goals repeat' (split at h)
 all_goals first
  | (cases h; done)
  | (cases h; trivial)
  | exact On h
  | (simp only[Option.map_eq_some_iff] at h; obtain⟨_,_,rfl⟩:=h; trivial)
theorem Oi {q:TR} (hc:uv o=false) (h:stepT P ty tt te tS o nT=some q):q.c:=by
 have hp:∀ {q:TR},((bh P ty tt te tS o).map fun r=>(⟨r.1,te,tS,qY te o,r.2⟩:TR))=some q→q.c:=by
  intro q h
  simp only[Option.map_eq_some_iff] at h
  obtain⟨a,h1,rfl⟩:=h
  exact Ei hc h1
 unfold stepT at h
 split at h
 ·split at h
  ·cases h; trivial
  ·cases h
 ·split at h
  ·split at h
   ·cases h; trivial
   ·cases h
  ·cases h
 ·split at h
  ·split at h
   ·split at h
    ·simp only[Option.map_eq_some_iff] at h
     obtain⟨_,_,rfl⟩:=h
     trivial
    ·cases h
   ·cases h
  ·cases h
 ·rename_i ho
  simp only[uv,ho] at hc
  cases hc
 ·exact hp h
def Nb (o:Oper):Prop:=(∃ op t x y u,o.op = .binOp op t x y u)∨∃ op t x,o.op = .unOp op t x
theorem tG {v:TV} (hb:Nb o) (h:bh P ty tt te tS o=some (v,True)):stepT P ty tt te tS o nT=some ⟨v,te,tS,[],True⟩:=by
 rcases hb with ⟨op,t,x,y,u,ho⟩ | ⟨op,t,x,ho⟩<;>simp only[stepT,ho,h,Option.map_some,qY]
theorem Kw {v:TV} {c:Prop} (h:xU te o=some (v,c)):Nb o:=by
 unfold xU at h
 split at h
 ·rename_i ho; exact .inl ⟨_,_,_,_,_,ho⟩
 ·rename_i ho; exact .inl ⟨_,_,_,_,_,ho⟩
 ·rename_i ho; exact .inl ⟨_,_,_,_,_,ho⟩
 ·rename_i ho; exact .inr ⟨_,_,_,ho⟩
 ·cases h
theorem RP {b:Bool} (h:LG P te o=some b):Nb o:=by
 unfold LG at h
 split at h
 ·rename_i ho; exact .inl ⟨_,_,_,_,_,ho⟩
 ·rename_i ho; exact .inl ⟨_,_,_,_,_,ho⟩
 ·cases h
theorem Wx (hb:Nb o):kA o=false:=by
 rcases hb with ⟨op,t,x,y,u,ho⟩ | ⟨op,t,x,ho⟩<;>simp only[kA,ho]
theorem OU {g:FuncId} {targs:List TV} (h:Mj tt te o=some (g,targs)):∃ f args argTypes fs cs xs,o.op = .call { callee := .value f,args,argTypes }∧eZ te f=some (.fn g fs cs)∧kX te args.toList=some xs∧(fs++xs++cs).all eC=true∧bk (fR tt fs argTypes) (fs++xs++cs)=targs:=by
 unfold Mj at h
 split at h
 ·rename_i f args argTypes ho
  split at h
  ·rename_i g' fs cs xs h1 h2
   split at h
   ·rename_i h3
    cases h
    exact⟨f,args,argTypes,fs,cs,xs,ho,h1,h2,h3,rfl⟩
   ·cases h
  ·cases h
 ·cases h
theorem JW {g:FuncId} {kp:Nat} {targs ts:List TV} (h:FR tt te tS o=some (g,kp,targs,ts)):∃ f args argTypes fs cs xs,o.op = .call { callee := .value f,args,argTypes }∧eZ te f=some (.fn g fs cs)∧kX te args.toList=some xs∧sL kp (fR tt fs argTypes) (fs++xs++cs)=some targs∧(fs++xs++cs).any isRef=true∧tS[kp]? = some (.cells ts)∧fN ts=[]:=by
 unfold FR at h
 split at h
 ·rename_i f args argTypes ho
  split at h
  ·rename_i g' fs cs xs h1 h2
   split at h
   ·split at h
    ·rename_i h4 h5
     split at h
     ·rename_i h6
      simp only[Bool.and_eq_true,List.isEmpty_iff] at h6
      cases h
      exact⟨f,args,argTypes,fs,cs,xs,ho,h1,h2,h4,h6.1,h5,h6.2⟩
     ·cases h
    ·cases h
   ·cases h
  ·cases h
 ·cases h
theorem JX {g:FuncId} {kp:Nat} {targs ts:List TV} (h:FT tt te tS o=some (g,kp,targs,ts)):∃ f args argTypes fs cs xs off rest,o.op = .call { callee := .value f,args,argTypes }∧eZ te f=some (.fn g fs cs)∧kX te args.toList=some xs∧fs++xs++cs = .ptr kp off::rest∧rest.all eC=true∧tS[kp]? = some (.cells ts)∧ts.all sI=true∧targs = .ptr 0 off::bk (fR tt fs argTypes).tail rest:=by
 unfold FT at h
 split at h
 ·rename_i f args argTypes ho
  split at h
  ·rename_i g' fs cs xs h1 h2
   split at h
   ·rename_i kp' off rest hl
    split at h
    ·rename_i tR h5
     split at h
     ·rename_i h6
      simp only[Bool.and_eq_true] at h6
      cases h
      exact⟨f,args,argTypes,fs,cs,xs,off,rest,ho,h1,h2,hl,h6.1,h5,h6.2,rfl⟩
     ·cases h
    ·cases h
   ·cases h
  ·cases h
 ·cases h
theorem Es {md:Nat} {v:TV} {cs:List TV} {K:Prop} (h:Du md v cs K):(md=2→HA v=true∧cs.all sI=true)∧K:=by
 unfold Du at h
 split at h
 ·split at h
  ·rename_i h1
   simp only[Bool.and_eq_true] at h1
   exact⟨fun _=>h1,h⟩
  ·exact h.elim
 ·rename_i hn
  exact⟨fun e=>(hn e).elim,h⟩
theorem oV {k:Nat}:∀ {tS:List TB} {i:Nat},k∈ee i tS↔i≤k∧∃ c,tS[k-i]? = some (.cells c)
 | [],i=>by simp[ee]
 | b::l,i=>by
  have ih:=oV (k:=k) (tS:=l) (i:=i+1)
  have hs:∀ (c:List TV),i+1≤k→((b::l)[k-i]? = some (.cells c)↔l[k-(i+1)]? = some (.cells c)):=fun c h=>by
   rw[show k-i=(k-(i+1))+1 by omega,List.getElem?_cons_succ]
  cases b with
  | cells c0 =>
   simp only[ee,List.mem_cons,ih]
   constructor
   ·rintro(rfl | ⟨h1,c,h2⟩)
    ·exact⟨Nat.le_refl _,c0,by simp⟩
    ·exact⟨by omega,c,(hs c h1).2 h2⟩
   ·rintro⟨h1,c,h2⟩
    by_cases e:k=i
    ·exact .inl e
    ·exact .inr ⟨by omega,c,(hs c (by omega)).1 h2⟩
  | none =>
   simp only[ee,ih]
   constructor
   ·rintro⟨h1,c,h2⟩; exact⟨by omega,c,(hs c h1).2 h2⟩
   ·rintro⟨h1,c,h2⟩
    by_cases e:k=i
    ·subst e; simp at h2
    ·exact⟨by omega,c,(hs c (by omega)).1 h2⟩
  | map kt0 c0 =>
   simp only[ee,ih]
   constructor
   ·rintro⟨h1,c,h2⟩; exact⟨by omega,c,(hs c h1).2 h2⟩
   ·rintro⟨h1,c,h2⟩
    by_cases e:k=i
    ·subst e; simp at h2
    ·exact⟨by omega,c,(hs c (by omega)).1 h2⟩
  | rows t0 e0 c0 z0 =>
   simp only[ee,ih]
   constructor
   ·rintro⟨h1,c,h2⟩; exact⟨by omega,c,(hs c h1).2 h2⟩
   ·rintro⟨h1,c,h2⟩
    by_cases e:k=i
    ·subst e; simp at h2
    ·exact⟨by omega,c,(hs c (by omega)).1 h2⟩
  | own e0 s0 =>
   simp only[ee,ih]
   constructor
   ·rintro⟨h1,c,h2⟩; exact⟨by omega,c,(hs c h1).2 h2⟩
   ·rintro⟨h1,c,h2⟩
    by_cases e:k=i
    ·subst e; simp at h2
    ·exact⟨by omega,c,(hs c (by omega)).1 h2⟩
theorem Ep {k:Nat} {c:List TV} (h:tS[k]? = some (.cells c)):k∈ee 0 tS:=oV.2 ⟨Nat.zero_le _,c,h⟩
theorem V9:lJ (ee 0 tS) tS:=fun _ hk=>(oV.1 hk).2
mutual
theorem QU (hi:∀ k,wS tS k=true→ι' k=ι k):∀ (v:TV) (d:DV),RT ι S v d→RT ι' S' (jP tS v) d
 | .unk,_,_=>by simp only[jP,RT]
 | .val _,d,k=>by cases d<;>simp only[RT,jP] at k ⊢; exact k
 | .gl,d,k=>by cases d<;>simp only[RT,jP] at k ⊢; exact k
 | .agg l,d,k=>by cases d<;>simp only[RT,jP] at k ⊢; exact kg hi l _ k
 | .fB l,d,k=>by cases d<;>simp only[RT,jP] at k ⊢; exact kg hi l _ k
 | .sl t l .no,d,k=>by cases d<;>simp only[RT,jP] at k ⊢; exact k
 | .sl t l .full,d,k=>by cases d<;>simp only[RT,jP] at k ⊢; exact k
 | .sl t l (.nY g),d,k=>by cases d<;>simp only[RT,jP] at k ⊢; exact⟨k.1,trivial⟩
 | .ptr id off,d,k=>by
  cases d<;>simp only[RT] at k
  simp only[jP]
  split
  ·rename_i hc
   simp only[RT]
   exact⟨(hi _ hc).trans k.1,k.2⟩
  ·simp only[RT]
 | .dB t l i off,d,k=>by cases d<;>simp only[RT,jP] at k ⊢; exact k
 | .mp id,d,_=>by simp only[RT,jP]
 | .so g t,d,_=>by simp only[RT,jP]
 | .sp g t i off,d,_=>by simp only[RT,jP]
 | .fn f a b,d,k=>by cases d<;>simp only[RT,jP] at k ⊢; exact⟨k.1,kg hi a _ k.2.1,kg hi b _ k.2.2⟩
theorem kg (hi:∀ k,wS tS k=true→ι' k=ι k):∀ (l:List TV) (m:List DV),cG ι S l m→cG ι' S' (mo tS l) m
 | [],m,k=>by rw[aM k]; simp only[mo]; exact bL
 | a::l,m,k=>by
  obtain⟨d,m',rfl,h1,h2⟩:=aj k
  simp only[mo]
  exact aP (QU hi a d h1) (kg hi l m' h2)
end
def IW (call:bg) (g:FuncId) (A:List TV) (tS:List TB) (K:TV→List TB→Prop):Prop :=
 ∀ ι bY S,bS ι A tS bY S→∃ d S' ι' v bU,call g bY S=some (d,S')∧bS ι' [v] bU [d] S'∧lJ (ee 0 tS) bU∧Fr (ee 0 tS) ι S ι' S'∧Nn S.length S S'∧K v bU
theorem OM {f:Operand} {args:Array Operand} {argTypes:Array TypeId} {g:FuncId} {fs cs xs:List TV} {K:TV→List TB→Prop} (hop:o.op = .call { callee := .value f,args,argTypes }) (hf:eZ te f=some (.fn g fs cs)) (ha:kX te args.toList=some xs) (hr:(fs++xs++cs).any isRef=true∨ty.h o=1)
  (hc:IW call g (fs++xs++cs) tS K):Does P ty aD call yf B o nT te tS false fun v bT bU _=>bT=mo tS te∧K v bU:=by
 intro ι w env S ay hR hB hw hT O8 hS
 obtain⟨xg,jj,IX,k1,k2,k3⟩:=jh hR.env hf ha
 obtain⟨d,S',ι',v,bU,m1,m2,m3,m4,m5,m6⟩:=hc ι _ S ⟨k3,hR.cells,hR.own,hR.sw,hR.inj,hR.mp⟩
 obtain⟨w',hw'⟩:=FH m2
 obtain⟨_,_,e,m7,-⟩:=aj m2.env
 cases e
 have Yy:∀ k,k∈B→k∈ee 0 tS:=fun k hk=>by obtain⟨l,h1⟩:=hB k hk; exact Ep h1
 refine⟨d,S',ι',w',v,mo tS te,bU,⟨none,true⟩,⟨none,true⟩,fun _ => ?_,fun e=>(by cases e),⟨fun e=>e,fun l hl=>(by cases hl)⟩,fun l m hl=>(by cases hl),⟨kg (fun k hk => ?_) _ _ hR.env,m2.cells,m2.own,m2.sw,m2.inj,m2.mp⟩,m7,hw',fun e=>(by cases e),⟨m4.rest,m4.ours,fun k hk=>m4.base k (Yy k hk)⟩,fun k hk=>m3 k (Yy k hk),⟨m5.1,fun j hj dI=>m5.2 j (by have:=(List.getElem?_eq_some_iff.1 dI).1; omega) dI⟩,rfl,m6⟩
 ·rcases hr with hr | hr
  ·have:=rE hr k3
   simp only[ah,hop,k1,k2,sK,this,Bool.false_eq_true,if_false,m1]
   split<;>rfl
  ·simp only[ah,hop,k1,k2,hr,m1]
 ·unfold wS at hk
  split at hk
  ·rename_i c hc; exact m4.base k (Ep hc)
  ·cases hk
theorem Rv {md:Nat} {A:List TV} {fn:Func} {j:List (Nat×LA)} (h:UG ty T md te o=some (A,fn,j)):md=0∧∃ f args argTypes g fs cs xs,o.op = .call { callee := .value f,args,argTypes }∧eZ te f=some (.fn g fs cs)∧kX te args.toList=some xs∧((fs++xs++cs).any isRef=true∨ty.h o=1)∧A=fs++xs++cs∧T.X g=some (fn,j):=by
 unfold UG at h
 split at h
 ·split at h
  ·rename_i g A' h1
   split at h
   ·rename_i rY j' h2
    cases h
    unfold Yu at h1
    split at h1
    ·rename_i f args argTypes ho
     split at h1
     ·rename_i g' fs cs xs e1 e2
      split at h1
      ·rename_i hr
       cases h1
       exact⟨rfl,f,args,argTypes,g,fs,cs,xs,ho,e1,e2,by simpa using hr,rfl,h2⟩
      ·cases h1
     ·cases h1
    ·cases h1
   ·cases h
  ·cases h
 ·cases h
theorem mC {b:Bool} {c:Prop} (h:UD ty te o=some (b,c)) (hc:c):(∃ op t x y u,o.op = .binOp op t x y u)∧∀ {env:List DV},cG ι S te env→∀ ay,ah P ty aD call yf (fM env) o S ay=some (.val (.bool b),S):=by
 unfold UD at h
 split at h
 ·rename_i t x y _ ho
  refine⟨⟨_,_,_,_,_,ho⟩,fun {env} hE ay => ?_⟩
  split at h
  ·rename_i h1 h2 h3
   cases h
   obtain⟨d1,k1,k2⟩:=aS hE h2
   obtain⟨d2,k3,k4⟩:=aS hE h3
   cases d1<;>simp only[RT] at k2
   cases d2<;>simp only[RT] at k4
   obtain⟨rfl,rfl,rfl⟩:=k4
   rename_i rows tok f
   have hr:rows.isEmpty=false:=by
    have:=iI k2.1
    cases rows with
    | nil=>exact absurd (List.eq_nil_of_length_eq_zero (by simpa using this.symm)) hc
    | cons=>rfl
   simp only[ah,ho,valOf,k1,k3,Option.bind_some,uZ,xM,h1,Fy,hr,Bool.false_eq_true,if_false,Option.map_some]
  ·rename_i h1 h2 h3
   cases h
   obtain⟨d1,k1,k2⟩:=aS hE h2
   obtain⟨d2,k3,k4⟩:=aS hE h3
   cases d1<;>simp only[RT] at k2
   cases d2<;>simp only[RT] at k4
   obtain⟨rfl,rfl,rfl⟩:=k4
   obtain⟨rfl,rfl,rfl⟩:=k2
   simp only[ah,ho,valOf,k1,k3,Option.bind_some,uZ,xM,h1,Fy,List.isEmpty_nil,if_true,Option.map_some]
  ·cases h
 ·cases h
theorem Et {b:Value} (hb:∃ op t x y u,o.op = .binOp op t x y u) (h:∀ {ι:jR} {S:ak} {env:List DV},cG ι S te env→∀ ay,ah P ty aD call yf (fM env) o S ay=some (.val b,S)) (dr:Bool):Does P ty aD call yf B o nT te tS dr fun v bT bU ft=>v = .val b∧bT=te∧bU=tS∧ft=⟨some [],false⟩:=by
 intro ι w env S ay hR hB hw hT hn hS
 obtain⟨op,t,x,y,u,ho⟩:=hb
 refine⟨.val b,S,ι,w,.val b,te,tS,⟨some [],false⟩,⟨some [],false⟩,fun _=>h hR.env ay,fun _ => ?_,⟨id,fun l hl=>⟨[],rfl,fun j hj=>(by cases hj)⟩⟩,fun l m _ hm j hj=>(by cases hm; cases hj),hR,by simp only[RT],hw,fun _ _ _=>rfl,Fr.refl _ _ _,hB,dZ _ _,rfl,rfl,rfl,rfl⟩
 have:=h hR.env ay
 simp only[aB,ho]
 rw[this]; rfl
theorem Vr {k:Nat} {b:Value} {Q:List TV→Prop} (ho:ops[k]? = some o) (hw:cV ops te o=some true) (hb:∃ op t x y u,o.op = .binOp op t x y u) (h:∀ {ι:jR} {S:ak} {env:List DV},cG ι S te env→∀ ay,ah P ty aD call yf (fM env) o S ay=some (.val b,S)) (hq:WQ P ty aD call yf ops tS (k+1) (jM te o.dst (.val b)) Q):WQ P ty aD call yf ops tS k te Q:=by
 intro ι env S hR
 obtain⟨az,bT,n1,n2,n3⟩:=hq ι (gC env o.dst (.val b)) S (jX hR (by simp only[RT]) _)
 refine⟨az,bT,?_,n2,n3⟩
 rw[j4 ho]
 have hs:=h hR.env S.length
 obtain⟨op,t,x,y,u,hop⟩:=hb
 have hq:bZ P ty aD call yf (fM env) o S=some (.val b):=by
  simp only[bZ,hop]
  rw[hs]; rfl
 simp only[lN,eW hR.env hw,if_true,hq,n1]
def Bz (P:Program) (ty:eS) (aD:bq) (call:bg) (yf:dF) (B:List Nat) (ops:Array Oper) (Q:List TV→List TB→Prop) (md:Nat) (nU:List TB) (k:Nat) (te:List TV) (tS:List TB) (fs:List cz):Prop :=
 match md with
 | 0=>WL P ty aD call yf B ops k te tS Q
 | 1=>tS=nU→WQ P ty aD call yf ops nU k te fun te=>Q te nU
 | _=>WD P ty aD call yf B ops k te tS fs Q
theorem Cj {Q:List TV→List TB→Prop} {md k:Nat} {nU:List TB} (qv:md≤2) (ho:ops[k]? = some o) (hw:cV ops te o=some false) {K:KO} (hK:∀ te tS fs,K te tS fs→Bz P ty aD call yf B ops Q md nU (k+1) te tS fs) (h:Hq o te tS fs K):Bz P ty aD call yf B ops Q md nU k te tS fs:=by
 have h1:=hK _ _ _ (gp (K:=fun te=>K te tS (fs++[eM])) h)
 rcases O2 qv with rfl | rfl | rfl
 ·exact Qt ho hw h1
 ·exact fun e=>Qs ho hw (h1 e)
 ·exact Qw ho hw h1
variable {inl:Ym}
def vu (call:bg) (T:gN) (inl:Ym):Prop:=∀ g fn j A tS (K:TV→List TB→Prop),T.X g=some (fn,j)→inl fn j A tS K→IW call g A tS K
def Ql (ty:eS) (md:Nat) (o:Oper) (zy:List TV) (C3:List TB) (te:List TV) (tS:List TB):Prop :=
 match md with
 | 0=>Fv ty zy C3 o=some (te,tS)
 | _=>zy=te∧C3=tS
theorem RU (hT:ow T aD call) (hI:vu call T inl) {Q:List TV→List TB→Prop} {md n0 k:Nat} {nU C3:List TB} {zy:List TV} (qv:md≤2) (ho:ops[k]? = some o) (hw:cV ops zy o=some true) (oc:Ql ty md o zy C3 te tS) {K:KO} (hK:∀ te tS fs,K te tS fs→Bz P ty aD call yf B ops Q md nU (k+1) te tS fs)
  (hn:BD tS (Jf md n0 k tS)=true) (h:Mk ty tt T inl md o te tS fs K):Bz P ty aD call yf B ops Q md nU k zy C3 fs:=by
 unfold Mk at h
 split at h
 ·rename_i A fn j hx
  obtain⟨rfl,f,args,argTypes,g,fs1,cs1,xs,c1,c2,c3,c4,rfl,c5⟩:=Rv hx
  refine kL ho hw oc (OM c1 c2 c3 c4 (hI g fn j _ tS _ c5 h)) ?_
  rintro v bT bU ft ⟨rfl,hv⟩
  exact hK _ _ _ (gp (K:=fun te=>K te bU fs) (cg (mo tS te) (K:=fun te=>gR te o.dst v fun te=>K te bU fs) (fE v (K:=fun v=>cS (mo tS te) fun te=>gR te o.dst v fun te=>K te bU fs) hv)))
 split at h
 ·exact h.elim
 rename_i hh
 replace hh:ty.h o≠1:=by simpa using hh
 split at h
 ·rename_i g targs hc
  obtain⟨f,args,argTypes,fs1,cs1,xs,c1,c2,c3,c4,c5⟩:=OU hc
  split at h
  ·rename_i p s hm hs
   have hm:md=0:=by simpa using hm
   subst hm
   obtain⟨hp,h⟩:=ic h
   refine kL ho hw oc (GW c1 hh c2 c3 c4 c5 (hT.N _ _ _ _ hs hp)) ?_
   rintro v bT bU ft ⟨ts,hq,rfl,rfl,rfl⟩
   have e:om tS tS.length (.cells ts)=tS++[.cells ts]:=by unfold om; rw[if_neg (Nat.lt_irrefl _)]
   rw[e]
   exact hK _ _ _ (gp (K:=fun te=>K te (tS++[.cells ts]) fs) (G0 (R:=fun cs=>gR bT o.dst (.ptr tS.length 0) fun te=>K te (tS++[.cells cs]) fs) h hq))
  ·split at h
   ·rename_i p s hs
    obtain⟨hp,h⟩:=ic h
    have hsp:=hT.I _ _ _ _ hs hp
    have fin:∀ v,s.qZ v→Bz P ty aD call yf B ops Q md nU (k+1) (jM te o.dst v) tS (fs++[eM]):=fun v hv =>
     hK _ _ _ (gp (K:=fun te=>K te tS (fs++[eM])) (fE v (K:=fun v=>gR te o.dst v fun te=>K te tS (fs++[eM])) (GZ (R:=fun v=>fP v fun v=>gR te o.dst v fun te=>K te tS (fs++[eM])) h hv)))
    rcases O2 qv with rfl | rfl | rfl
    ·skip
     refine kL ho hw oc (y7 c1 hh c2 c3 c4 c5 hsp false) ?_
     rintro v bT bU ft ⟨hv,rfl,rfl,-⟩
     exact fin v hv
    ·obtain⟨rfl,rfl⟩:=oc
     exact fun e=>Ni ho hw c1 hh c2 c3 c4 c5 hsp fun v hv=>fin v hv e
    ·skip
     obtain⟨rfl,rfl⟩:=oc
     refine xy ho hw hn (y7 c1 hh c2 c3 c4 c5 hsp true) ?_
     rintro v bT bU ft ⟨hv,rfl,rfl,rfl⟩
     exact fin v hv
   ·exact h.elim
 ·split at h
  ·rename_i g kp targs ts hc
   split at h
   ·rename_i p s hs
    obtain⟨hp,h⟩:=ic h
    have hsp:=hT.C _ _ _ _ _ hs hp
    have all:∀ v cs,s.holds v cs→Du md v cs (fP v fun v=>gR te o.dst v fun te=>cS cs fun cs=>cL (tS.set kp (.cells cs)) fun tS=>K te tS (fs++[xC md kp])):=fun v cs hv =>
     Kz (R:=fun v cs=>Du md v cs (fP v fun v=>gR te o.dst v fun te=>cS cs fun cs=>cL (tS.set kp (.cells cs)) fun tS=>K te tS (fs++[xC md kp]))) h hv
    have fin:∀ v cs,s.holds v cs→Bz P ty aD call yf B ops Q md nU (k+1) (jM te o.dst v) (tS.set kp (.cells cs)) (fs++[xC md kp]):=fun v cs hv=>by
     have h1:=gp (fE v (K:=fun v=>gR te o.dst v fun te=>cS cs fun cs=>cL (tS.set kp (.cells cs)) fun tS=>K te tS (fs++[xC md kp])) (Es (all v cs hv)).2)
     exact hK _ _ _ (cN _ (K:=fun tS=>K _ tS (fs++[xC md kp])) (cg cs (K:=fun cs=>cL (tS.set kp (.cells cs)) fun tS=>K _ tS (fs++[xC md kp])) h1))
    rcases O2 qv with rfl | rfl | rfl
    ·obtain⟨f,args,argTypes,fs1,cs1,xs,c1,c2,c3,c4,c5,c6,c7⟩:=JW (tt:=tt) hc
     refine kL ho hw oc (GU c1 hh c2 c3 c4 c5 c6 c7 hsp) ?_
     rintro v bT bU ft ⟨tR,hv,rfl,rfl,-⟩
     exact fin v tR hv
    ·cases hc
    ·obtain⟨f,args,argTypes,fs1,cs1,xs,off,rest,c1,c2,c3,c4,c5,c6,c7,rfl⟩:=JX (tt:=tt) hc
     obtain⟨rfl,rfl⟩:=oc
     refine xy ho hw hn (E0 (tt:=tt) c1 hh c2 c3 c4 c5 c6 c7 hsp fun v cs hv=>(Es (all v cs hv)).1 rfl) ?_
     rintro v bT bU ft ⟨tR,hv,rfl,rfl,rfl⟩
     exact fin v tR hv
   ·exact h.elim
  ·exact h.elim
theorem Ea {Q:List TV→List TB→Prop} {md n0 k:Nat} {nU C3:List TB} {zy:List TV} (qv:md≤2) (ho:ops[k]? = some o) (hw:cV ops zy o=some true) (oc:Ql ty md o zy C3 te tS) {K:KO} (hK:∀ te tS fs,K te tS fs→Bz P ty aD call yf B ops Q md nU (k+1) te tS fs)
  (hn:BD tS (Jf md n0 k tS)=true) {v:TV} (hb:Nb o) (hp:bh P ty tt te tS o=some (v,True)) (h:gR te o.dst v fun te=>K te tS (fs++[eM])):Bz P ty aD call yf B ops Q md nU k zy C3 fs:=by
 have h1:=hK _ _ _ (gp (K:=fun te=>K te tS (fs++[eM])) h)
 rcases O2 qv with rfl | rfl | rfl
 ·skip
  refine kL ho hw oc (pY (tG hb hp) trivial false) ?_
  rintro v' bT bU ft ⟨rfl,rfl,rfl,-⟩
  exact h1
 ·obtain⟨rfl,rfl⟩:=oc
  exact fun e=>HM ho hw (e▸hp) trivial (h1 e)
 ·skip
  obtain⟨rfl,rfl⟩:=oc
  refine xy ho hw hn (pY (tG hb hp) trivial true) ?_
  rintro v' bT bU ft ⟨rfl,rfl,rfl,rfl⟩
  rw[Wx hb]
  exact h1
theorem MF (hT:ow T aD call) (hI:vu call T inl) {Q:List TV→List TB→Prop} {md n0 k:Nat} {nU C3:List TB} {zy:List TV} (qv:md≤2) (ho:ops[k]? = some o) (hw:cV ops zy o=some true) (oc:Ql ty md o zy C3 te tS) {K:KO} (hK:∀ te tS fs,K te tS fs→Bz P ty aD call yf B ops Q md nU (k+1) te tS fs)
  (h:PW P ty tt T inl md n0 k o te tS fs K):Bz P ty aD call yf B ops Q md nU k zy C3 fs:=by
 unfold PW at h
 split at h
 ·exact h.elim
 ·rename_i hn
  split at h
  ·exact RU hT hI qv ho hw oc hK hn h
  ·split at h
   ·rename_i v bT bU f c hm
    obtain⟨hc,h⟩:=h
    have h1:=gp (cg bT (K:=fun te=>gR te o.dst v fun te=>cL bU fun tS=>K te tS (fs++[f])) (fE v (K:=fun v=>cS bT fun te=>gR te o.dst v fun te=>cL bU fun tS=>K te tS (fs++[f])) h))
    have h1:=hK _ _ _ (cN bU (K:=fun tS=>K _ tS (fs++[f])) h1)
    unfold SX at hm
    split at hm
    ·rename_i v2 g c2 hr
     cases hm
     rcases O2 qv with rfl | rfl | rfl
     ·refine kL ho hw oc (y6 hr hc false) ?_
      rintro v' te2 R4 ft ⟨rfl,rfl,rfl,rfl⟩
      exact h1
     ·obtain⟨rfl,rfl⟩:=oc
      exact fun e=>Nh ho hw (e▸hr) hc (h1 e)
     ·obtain⟨rfl,rfl⟩:=oc
      refine xy ho hw hn (y6 hr hc true) ?_
      rintro v' te2 R4 ft ⟨rfl,rfl,rfl,rfl⟩
      exact h1
    ·split at hm
     ·cases hm
     rename_i h91
     split at hm
     ·rename_i g R4 hs
      cases hm
      rcases O2 qv with rfl | rfl | rfl
      ·refine kL ho hw oc (yZ hs false) ?_
       rintro v' te2 R4 ft ⟨rfl,rfl,rfl,rfl⟩
       exact h1
      ·exact absurd rfl h91
      ·obtain⟨rfl,rfl⟩:=oc
       refine xy ho hw hn (yZ hs true) ?_
       rintro v' te2 R4 ft ⟨rfl,rfl,rfl,rfl⟩
       exact h1
     ·split at hm
      ·rename_i h90
       subst h90
       simp only[Option.map_eq_some_iff,Prod.mk.injEq] at hm
       obtain⟨⟨v2,te2,R4,c2⟩,hs,rfl,rfl,rfl,rfl,rfl⟩:=hm
       refine kL ho hw oc (GV hs hc) ?_
       rintro v' te3 tS3 ft ⟨rfl,rfl,rfl⟩
       exact h1
      ·cases hm
   split at h
   ·rename_i v bU c hm
    have h0:md=0:=by
     unfold mapM at hm
     split at hm
     ·rfl
     ·cases hm
    subst h0
    refine kL ho hw oc (OL hm h.1) ?_
    rintro v' bT R4 ft ⟨rfl,rfl,rfl⟩
    have h1:=gp (fE v' (K:=fun v=>gR bT o.dst v fun te=>cL R4 fun tS=>K te tS (fs++[⟨none,true⟩])) h.2)
    exact hK _ _ _ (cN R4 (K:=fun tS=>K _ tS (fs++[⟨none,true⟩])) h1)
   split at h
   ·rename_i v c ha
    exact Ea qv ho hw oc hK hn (Kw ha) (GY (tt:=tt) ha h.1) h.2
   ·split at h
    ·rename_i b _ hb
     exact Ea qv ho hw oc hK hn (RP hb) (OR (tt:=tt) hb) h
    ·rename_i b c _ _ hb
     obtain⟨hc,h⟩:=h
     have h1:=hK _ _ _ (gp (K:=fun te=>K te tS (fs++[eM])) h)
     rcases O2 qv with rfl | rfl | rfl
     ·refine kL ho hw oc (Et (mC (P:=P) (aD:=aD) (call:=call) (yf:=yf) (ι:=eD) (S:=[]) hb hc).1 (fun hE ay=>(mC hb hc).2 hE ay) false) ?_
      rintro v' bT bU ft ⟨rfl,rfl,rfl,-⟩
      exact h1
     ·obtain⟨rfl,rfl⟩:=oc
      exact fun e=>Vr ho hw (mC (P:=P) (aD:=aD) (call:=call) (yf:=yf) (ι:=eD) (S:=[]) hb hc).1 (fun hE ay=>(mC hb hc).2 hE ay) (h1 e)
     ·obtain⟨rfl,rfl⟩:=oc
      refine xy ho hw hn (Et (mC (P:=P) (aD:=aD) (call:=call) (yf:=yf) (ι:=eD) (S:=[]) hb hc).1 (fun hE ay=>(mC hb hc).2 hE ay) true) ?_
      rintro v' bT bU ft ⟨rfl,rfl,rfl,rfl⟩
      exact h1
    ·have key:md≠1→∀ q:TR,stepT P ty tt te tS o (Jf md n0 k tS)=some q→q.c→K (jM q.te o.dst q.v) q.tS (fs++[⟨some q.BL,kA o⟩])→Bz P ty aD call yf B ops Q md nU k zy C3 fs:=by
      intro hm q hq hc hk
      have h1:=hK _ _ _ hk
      rcases O2 qv with rfl | rfl | rfl
      ·skip
       refine kL ho hw oc (pY hq hc false) ?_
       rintro v' bT bU ft ⟨rfl,rfl,rfl,-⟩
       exact h1
      ·exact(hm rfl).elim
      ·skip
       obtain⟨rfl,rfl⟩:=oc
       refine xy ho hw hn (pY hq hc true) ?_
       rintro v' bT bU ft ⟨rfl,rfl,rfl,rfl⟩
       exact h1
     split at h
     ·split at h
      ·rename_i q hq
       have fin:∀ {R:Prop},q.2→K (jM te o.dst q.1) tS (fs++[eM])→Bz P ty aD call yf B ops Q 1 nU k zy C3 fs:=fun {_} hc hk=>by
        obtain⟨h8,h9⟩:=oc
        subst h8 h9
        exact fun e=>HM ho hw (e▸(show bh P ty tt zy C3 o=some (q.1,q.2) from hq)) hc (hK _ _ _ hk e)
       split at h
       ·exact fin (R:=True) h.1 (gp (K:=fun te=>K te tS (fs++[eM])) (fE q.1 (K:=fun v=>gR te o.dst v fun te=>K te tS (fs++[eM])) h.2))
       ·rename_i kH
        exact fin (R:=True) (Ei kH hq) (gp (K:=fun te=>K te tS (fs++[eM])) (fE q.1 (K:=fun v=>gR te o.dst v fun te=>K te tS (fs++[eM])) h))
      ·exact h.elim
     ·rename_i hm
      split at h
      ·rename_i q hq
       split at h
       ·refine key (fun e=>hm e) q hq h.1 ?_
        have h1:=cg q.te (fE q.v (K:=fun v=>cS q.te fun te=>gR te o.dst v fun te=>cL q.tS fun tS=>K te tS (fs++[⟨some q.BL,kA o⟩])) h.2)
        exact cN q.tS (K:=fun tS=>K _ tS _) (gp h1)
       ·rename_i kH
        refine key (fun e=>hm e) q hq (Oi kH hq) ?_
        have h1:=gp (fE q.v (K:=fun v=>gR q.te o.dst v fun te=>cL q.tS fun tS=>K te tS (fs++[⟨some q.BL,kA o⟩])) h)
        exact cN q.tS (K:=fun tS=>K _ tS _) h1
      ·exact h.elim
theorem DU {n:Int} {K:Nat→Prop}:∀ (c j:Nat),FL n K c j→∃ i:Nat,n=i∧K i
 | 0,_,h=>h.elim
 | c+1,j,h=>by
  obtain⟨h1,h2⟩:=pM h
  by_cases e:n=(j:Int)
  ·exact⟨j,e,h1 (decide_eq_true e)⟩
  ·exact DU c (j+1) (h2 (decide_eq_false e))
theorem Wz {t c:Nat} {n:Int} (h:Ve ty te o=some (t,n,c)):te[t]? = some (.val (.int .i64 n)):=by
 unfold Ve at h
 split at h
 ·split at h
  ·rename_i h1 h2; cases h; exact h2
  ·cases h
 ·split at h
  ·rename_i h1 h2; cases h; exact h2
  ·cases h
 ·cases h
theorem ME (hT:ow T aD call) (hI:vu call T inl) {Q:List TV→List TB→Prop} {md n0 k:Nat} {nU C3:List TB} {zy:List TV} (qv:md≤2) (ho:ops[k]? = some o) (hw:cV ops zy o=some true) (oc:Ql ty md o zy C3 te tS) {K:KO} (hK:∀ te tS fs,K te tS fs→Bz P ty aD call yf B ops Q md nU (k+1) te tS fs)
  (h:Je P ty tt T inl md n0 k o te tS fs K):Bz P ty aD call yf B ops Q md nU k zy C3 fs:=by
 unfold Je at h
 split at h
 ·rename_i t n c ha
  obtain⟨i,rfl,hi⟩:=DU _ _ h
  have:=lC te t _ hi
  rw[kP (Wz ha)] at this
  exact MF hT hI qv ho hw oc hK this
 ·exact MF hT hI qv ho hw oc hK h
theorem LV (hT:ow T aD call) (hI:vu call T inl) {Q:List TV→List TB→Prop} {md n0 k:Nat} {nU:List TB} (qv:md≤2) (ho:ops[k]? = some o) (hw:cV ops te o=some true) {K:KO} (hK:∀ te tS fs,K te tS fs→Bz P ty aD call yf B ops Q md nU (k+1) te tS fs)
  (h:XA P ty tt T inl md n0 k o te tS fs K):Bz P ty aD call yf B ops Q md nU k te tS fs:=by
 unfold XA at h
 split at h
 ·split at h
  ·rename_i kY iu hp
   exact ME hT hI qv ho hw hp hK (cN iu (K:=fun tS=>Je P ty tt T inl 0 n0 k o kY tS fs K) (cg kY (K:=fun te=>cL iu fun tS=>Je P ty tt T inl 0 n0 k o te tS fs K) h))
  ·exact h.elim
 ·rename_i hno
  refine ME hT hI qv ho hw ?_ hK h
  rcases O2 qv with rfl | rfl | rfl
  ·show Fv ty te tS o=some (te,tS)
   unfold Fv
   split
   ·rename_i h2; exact(hno rfl h2).elim
   ·rfl
  ·exact⟨rfl,rfl⟩
  ·exact⟨rfl,rfl⟩
theorem Tq {b:Bool} (h:Yf ops te o = .no b):cV ops te o=some b:=by
 unfold Yf at h
 unfold cV
 split at h
 ·cases h; rename_i e; rw[e]
 ·rename_i e
  rw[e]
  dsimp only
  split at h
  ·rename_i e1
   rw[e1]
   dsimp only
   split at h
   ·cases h
   ·cases h
   ·cases h
    rename_i v hv e2
    rw[e2]
    split<;>simp_all
   ·cases h
  ·cases h; rename_i e1; rw[e1]
theorem Wm {d:Tmp} {b want:Bool} (h:Yf ops te o = .ask d b want):te[d]? = some (.val (.bool b))∧cV ops te o=some (match want with | true=>b | false => !b):=by
 unfold Yf at h
 unfold cV
 split at h
 ·cases h
 ·rename_i e
  rw[e]
  dsimp only
  split at h
  ·rename_i e1
   rw[e1]
   dsimp only
   split at h
   ·cases h; rename_i e2; rw[e2]; cases want<;>exact⟨rfl,rfl⟩
   ·cases h
   ·cases h
   ·cases h
  ·cases h
theorem xK (hT:ow T aD call) (hI:vu call T inl) {Q:List TV→List TB→Prop} {md n0:Nat} {nU:List TB} (qv:md≤2) {K:KO} (hK:∀ te tS fs,K te tS fs→Bz P ty aD call yf B ops Q md nU ops.size te tS fs) :
  ∀ (r:List Oper) (k:Nat) (te:List TV) (tS:List TB) (fs:List cz),ops.toList.drop k=r→lp P ty tt T inl md n0 ops r k te tS fs K→Bz P ty aD call yf B ops Q md nU k te tS fs
 | [],k,te,tS,fs,hr,h=>by
  have hk:ops.size≤k:=by
   have:=List.drop_eq_nil_iff.1 hr
   simpa using this
  have h1:=hK te tS fs h
  rcases O2 qv with rfl | rfl | rfl
  ·intro ι env S hR hB; have:=h1 ι env S hR hB; rw[List.drop_eq_nil_of_le (by simp)] at this; rw[List.drop_eq_nil_of_le (by simpa using hk)]; exact this
  ·intro e ι env S hR; have:=h1 e ι env S hR; rw[List.drop_eq_nil_of_le (by simp)] at this; rw[List.drop_eq_nil_of_le (by simpa using hk)]; exact this
  ·skip
   intro ι w env S n0 hR hB hw hn
   have:=h1 ι w env S n0 hR hB hw (fun j hj wB=>by omega)
   rw[List.drop_eq_nil_of_le (by simp)] at this
   rw[List.drop_eq_nil_of_le (by simpa using hk)]
   obtain⟨az,S',xg,ι',w',bT,bU,ft,e1,e2,e3,e4,e5,e6,e7,e8,e9⟩:=this
   exact⟨az,S',xg,ι',w',bT,bU,ft,e1,e2,fun j _=>e3 j fun i hi Hf=>by omega,e4,e5,e6,e7,⟨e8.1,fun j _ hn=>e8.2 j (fun i hi Hf=>by omega) hn⟩,e9⟩
 | o::r,k,te,tS,fs,hr,h=>by
  obtain⟨ho,wA⟩:=EW hr
  have ih:∀ te tS fs,lp P ty tt T inl md n0 ops r (k+1) te tS fs K→Bz P ty aD call yf B ops Q md nU (k+1) te tS fs:=fun te tS fs=>xK hT hI qv hK r (k+1) te tS fs wA.symm
  simp only[lp] at h
  split at h
  ·rename_i hg
   exact LV hT hI qv ho (Tq hg) ih h
  ·rename_i hg
   exact Cj qv ho (Tq hg) ih h
  ·rename_i d b want hg
   obtain⟨h1,h2⟩:=Wm hg
   split at h
   ·obtain⟨k1,k2⟩:=pM h
    cases b with
    | true=>have:=lC te d _ (k1 rfl); rw[kP h1] at this; exact LV hT hI qv ho h2 ih this
    | false=>have:=lC te d _ (k2 rfl); rw[kP h1] at this; exact Cj qv ho h2 ih this
   ·obtain⟨k1,k2⟩:=pM h
    cases b with
    | true=>have:=lC te d _ (k1 rfl); rw[kP h1] at this; exact Cj qv ho h2 ih this
    | false=>have:=lC te d _ (k2 rfl); rw[kP h1] at this; exact LV hT hI qv ho h2 ih this
  ·exact h.elim
end Go.Tv
end
section
namespace Go.Tv
open Go Go.Di Go.Proofs
variable {P:Program} {ty:eS} {tt:TypeId→Option TT} {T:gN} {ι ι' w:jR} {S S':ak} {te kY:List TV} {env:List DV} {tS iu:List TB} {aD:bq} {call:bg} {yf:dF} {o:Oper} {ay nT:Nat} {B:List Nat} {r:TR} {ops:Array Oper} {fn:FuncId} {gJ:Bool} {fs:List cz}
def LA.St:LA→Type
 | .ex α k=>(x:α)×(k x).St
 | .st _=>Unit
 | .un _=>Empty
 | .dep _=>Empty
def LA.bd:(la:LA)→la.St→Bd
 | .ex _ k,⟨x,s⟩=>(k x).bd s
 | .st b,_=>b
theorem sW {K:Bd→Prop}:∀ {la:LA},la.some K→∃ s:la.St,K (la.bd s)
 | .ex _ k,⟨x,h⟩=>by
  obtain⟨s,h1⟩:=sW (la:=k x) h
  exact⟨⟨x,s⟩,h1⟩
 | .st b,h=>⟨(),h⟩
 | .un _,h=>h.elim
 | .dep _,h=>h.elim
theorem Hr {K:Bd→Prop}:∀ {la:LA},la.all K→∀ s:la.St,K (la.bd s)
 | .ex _ _,h,⟨x,s⟩=>Hr (h x) s
 | .st _,h,_=>h
theorem OI {b:Bd} {keep:Nat} {K:Prop} (h:MX B b keep te tS K):Fits B (jO b.sl keep 0 te) (sH b tS) te tS∧cI b.eE∧K:=by
 obtain⟨h0,h⟩:=jU h
 simp only[Bool.and_eq_true] at h0
 obtain⟨l1,e1,k1,h⟩:=iM h
 obtain⟨l2,e2,k2,h⟩:=iM h
 obtain⟨h3,h4⟩:=ic h
 exact⟨⟨tq e1 k1,gr e2 k2,h0.1,fun k hk=>List.all_eq_true.1 h0.2 k hk⟩,h3,h4⟩
theorem IK {b:Bd} {K:Prop} (h:Mm B kY iu b te tS K):Fits B kY iu te tS∧cI b.eE∧K:=by
 obtain⟨h0,h⟩:=jU h
 simp only[Bool.and_eq_true] at h0
 obtain⟨l1,e1,k1,h⟩:=iM h
 obtain⟨l2,e2,k2,h⟩:=iM h
 obtain⟨h3,h4⟩:=ic h
 exact⟨⟨sU e1 k1,Rk e2 k2,h0.1,fun k hk=>List.all_eq_true.1 h0.2 k hk⟩,h3,h4⟩
theorem SC {c:Code} {Q:DX→List TV→List TB→Prop} {f:List TV→List TB→(List TV→List TB→Prop)→Prop} (hf:∀ te tS K',f te tS K'→WT P ty aD call yf B LL fn gJ c te tS fun e te tS=>match e with | .normal=>K' te tS | e=>Q e te tS) :
  ∀ (n:Nat) (te:List TV) (tS:List TB),unK f n te tS→WI P ty aD call yf B LL fn gJ n c te tS Q
 | 0,_,_,h=>h.elim
 | n+1,te,tS,h=>Qv ((hf te tS _ h).mono fun e te tS hq=>by
   cases e with
   | normal=>exact SC hf n te tS hq
   | exit id=>exact hq
   | ret=>exact hq)
theorem D1 {x:Operand} {v:Bool} {K:List TV→Prop} (hx:eZ te x=some (.val (.bool v))) (h:LO x te v K):K te:=by
 cases x with
 | tmp t =>
  simp only[eZ,Option.some.injEq] at hx
  have:=lC te t _ (h:zN te t _ K)
  rwa [kP] at this
  rw[List.getD_eq_getElem?_getD] at hx
  cases e:te[t]? with
  | none=>rw[e] at hx; cases hx
  | some a=>rw[e] at hx; exact congrArg some hx
 | _=>exact h
variable {inl:Ym}
theorem Jn (hT:ow T aD call) (hI:vu call T inl) {id:Nat} {draw:Bool} {J:List (Nat×LA)} {i lv:Nat} {Q:DX→List TV→List TB→Prop} (h:wv P ty tt T inl B J (.region id ops draw) i lv te tS Q):WT P ty aD call yf B LL fn gJ (.region id ops draw) te tS Q:=by
 simp only[wv] at h
 split at h
 ·split at h
  ·rename_i hn
   obtain⟨hd,h⟩:=jU h
   refine Nf hd hn ?_
   exact xK (md:=2) (n0:=tS.length) (nU:=tS) (Q:=fun te tS=>Q .normal te (jL tS)) hT hI (by omega) (fun te tS fs hk=>by
    obtain⟨hm,hk⟩:=jU hk
    exact Vx (Nat.le_refl _) hm (cN _ (K:=fun tS=>Q .normal te tS) hk)) ops.toList 0 te _ [] rfl (cN _ (K:=fun nU=>lp P ty tt T inl 2 tS.length ops ops.toList 0 te nU [] fun te tS fs=>aL (ou (Region.before ops) fs) (cL (jL tS) fun tS=>Q .normal te tS) False) h)
  ·rename_i hn
   obtain⟨hd,h⟩:=jU h
   refine M9 hd hn ?_
   exact xK (B:=B) (md:=1) (n0:=0) (nU:=tS) (Q:=fun te tS=>Q .normal te tS) hT hI (by omega) (fun te tS fs hk _=>Ms (Nat.le_refl _) hk) ops.toList 0 te _ [] rfl h rfl
 ·refine Nc ?_
  exact xK (md:=0) (n0:=0) (nU:=tS) (Q:=fun te tS=>Q .normal te (jL tS)) hT hI (by omega) (fun te tS fs hk=>Vs (Nat.le_refl _) (cN _ (K:=fun tS=>Q .normal te tS) hk)) ops.toList 0 te _ [] rfl h
theorem JP {c:Code} (h:FQ P c=some ops):qz P ops=false∧∃ id,c = .region id ops true:=by
 unfold FQ at h
 split at h
 ·split at h
  ·cases h
  ·rename_i hl; cases h; exact⟨Bool.eq_false_iff.2 hl,_,rfl⟩
 ·cases h
theorem yO {env:List DV} {dst:Option Tmp} {v:DV} {i:Nat} (h:dst≠some i):(gC env dst v)[i]? = env[i]? := by
 cases dst with
 | none=>rfl
 | some d =>
  simp only[gC]
  rw[List.getElem?_set,if_neg (fun e=>h (by rw[e]))]
theorem uG {i:Nat}:∀ {l:List Oper} {env az:List DV},lN P ty aD call yf ops S l env=some az→(∀ o∈l,o.dst≠some i)→az[i]? = env[i]?
 | [],env,az,h,_=>by cases h; rfl
 | o::l,env,az,h,hd=>by
  simp only[lN] at h
  split at h
  ·split at h
   ·rw[uG h fun o' iS=>hd o' (List.mem_cons_of_mem _ iS),yO (hd o (List.mem_cons_self ..))]
   ·cases h
  ·rw[uG h fun o' iS=>hd o' (List.mem_cons_of_mem _ iS),yO (hd o (List.mem_cons_self ..))]
theorem V6 {u v:TV} {d:DV} (h:LeV u v) (hd:RT ι S v d):RT ι S u d:=by
 obtain⟨_,_,e,h1,-⟩:=aj (FW (h [] [] .nil) (gn hd))
 cases e
 exact h1
theorem rP {sl:List (Nat×TV)} {keep:Nat}:∀ {i:Nat} {te bT:List TV} {env az:List DV} {l:List Prop},cG ι S te env→cG ι S bT az→bT.length=te.length→qB sl i bT=some l→cI l→(∀ j,keep.testBit (i+j)=true→az[j]? = env[j]?)→cG ι S (jO sl keep i te) az
 | _,[],[],_,_,_,_,h2,_,_,_,_=>by rw[aM h2]; exact bL
 | i,v::te,v'::bT,env,az,l,h1,h2,hn,hp,hc,hk=>by
  obtain⟨d,m,rfl,a1,a2⟩:=aj h1
  obtain⟨d',m',rfl,b1,b2⟩:=aj h2
  have G7:bT.length=te.length:=by simpa using hn
  have qx:∀ j,keep.testBit (i+1+j)=true→m'[j]? = m[j]? := fun j hj=>by
   have:=hk (j+1) (by rw[← Nat.add_assoc,Nat.add_right_comm]; exact hj)
   simpa using this
  simp only[qB] at hp
  simp only[jO]
  split at hp
  ·rename_i p K6
   split at hp
   ·rename_i x y e1 e2
    cases hp
    obtain⟨k1,k2⟩:=je hc
    exact aP (V6 (FV e1 k1) b1) (rP a2 b2 G7 e2 k2 qx)
   ·cases hp
  ·refine aP ?_ (rP a2 b2 G7 hp hc qx)
   split
   ·rename_i hb
    have:=hk 0 hb
    simp only[List.getElem?_cons_zero,Option.some.injEq] at this
    rw[this]; exact a1
   ·simp only[RT]
 | _,[],_::_,_,_,_,_,_,hn,_,_,_=>by simp at hn
 | _,_::_,[],_,_,_,_,_,hn,_,_,_=>by simp at hn
theorem x6:∀ {l:List Oper} {env az:List DV},lN P ty aD call yf ops S l env=some az→az.length=env.length
 | [],env,az,h=>by cases h; rfl
 | o::l,env,az,h=>by
  have hp:∀ (dst:Option Tmp) (v:DV),(gC env dst v).length=env.length:=fun dst v=>by cases dst<;>simp[gC]
  simp only[lN] at h
  split at h
  ·split at h
   ·rw[x6 h,hp]
   ·cases h
  ·rw[x6 h,hp]
theorem Na {id:Nat} {b:Code} {Q:DX→List TV→List TB→Prop} {la:LA} {keep:Nat} (hd:iE ops (Region.before ops)=true) (hl:qz P ops=false) (hk:ML keep ops=true)
  (h1:WQ P ty aD call yf ops tS 0 te fun bT=>la.some fun bd=>ask (qB bd.sl 0 bT) (xu bd.eE True))
  (h2:∀ s:la.St,cI (la.bd s).eE→WT P ty aD call yf B LL fn gJ b (jO (la.bd s).sl keep 0 te) tS Q):WT P ty aD call yf B LL fn gJ (.seq (.region id ops true) b) te tS Q:=by
 intro ι env S hR hB
 obtain⟨az,bT,k1,k2,k3⟩:=h1 ι env S hR
 rw[List.drop_zero] at k1
 obtain⟨s,hs⟩:=sW k3
 obtain⟨l,e1,e2,e3⟩:=iM hs
 obtain⟨e3,-⟩:=ic e3
 have PG:bS ι (jO (la.bd s).sl keep 0 te) tS az S:=by
  refine⟨rP hR.env k2.env ?_ e1 e2 fun j hj => ?_,k2.cells,k2.own,k2.sw,k2.inj,k2.mp⟩
  ·rw[← fJ k2.env,← fJ hR.env,x6 k1]
  ·refine uG k1 fun o ho e => ?_
   have:=List.all_eq_true.1 hk o ho
   rw[Nat.zero_add] at hj
   rw[e] at this
   simp only[hj] at this
   cases this
 obtain⟨e,mm,qP,ι'',qS,qT,m1,m2,m3,m4,m5,m6⟩:=h2 s e3 ι az S PG hB
 refine⟨e,mm,qP,ι'',qS,qT,?_,m2,m3,m4,m5,m6⟩
 have:bO P ty aD call yf LL fn gJ (.region id ops true) env S=some (.normal,az,S):=by
  simp only[qz,Bool.or_eq_false_iff] at hl; simp only[bO,lD,if_true,hd,hl.2,Bool.not_true,Bool.false_eq_true,if_false,k1,Option.map_some]
 rw[bO,this]
 exact m1
theorem kE (hT:ow T aD call) (hI:vu call T inl) {J:List (Nat×LA)}:∀ (c:Code) (i lv:Nat) (te:List TV) (tS:List TB) (Q:DX→List TV→List TB→Prop),wv P ty tt T inl B J c i lv te tS Q→WT P ty aD call yf B LL fn gJ c te tS Q
 | .skip,_,_,_,_,_,h=>Qn h
 | .label _,_,_,_,_,_,h=>Nd h
 | .exit _,_,_,_,_,_,h=>Qq h
 | .ret,_,_,_,_,_,h=>Vq h
 | .scope c,i,lv,te,tS,Q,h=>M8 (kE hT hI c i lv te tS Q h)
 | .block id c,i,lv,te,tS,Q,h=>by
  refine Ng ((kE hT hI c i lv te tS _ h).mono fun e te tS hq => ?_)
  cases e with
  | normal=>exact hq
  | ret=>exact hq
  | exit gf =>
   dsimp only at hq ⊢
   split<;>simp_all
 | .cond x a b,i,lv,te,tS,Q,h=>by
  simp only[wv] at h
  split at h
  ·rename_i t hx
   obtain⟨h1,h2⟩:=pM h
   refine Qr hx (fun e => ?_) (fun e => ?_)
   ·subst e; exact kE hT hI a i lv te tS Q (D1 hx (h1 rfl))
   ·subst e; exact kE hT hI b (i+cnt a) lv te tS Q (D1 hx (h2 rfl))
  ·exact h.elim
 | .seq a b,i,lv,te,tS,Q,h=>by
  simp only[wv] at h
  split at h
  ·rename_i la _
   split at h
   ·rename_i ops hq
    obtain⟨h1,h2⟩:=h
    obtain⟨hl,id,rfl⟩:=JP hq
    obtain⟨h0,h1⟩:=jU h1
    simp only[Bool.and_eq_true] at h0
    refine Na (la:=la) h0.1 hl h0.2 ?_ fun s hg=>kE hT hI b _ lv _ _ Q (cg _ (jb (Hr h2 s) hg))
    exact xK (B:=B) (md:=1) (n0:=0) (nU:=tS) (Q:=fun bT _=>la.some fun bd=>ask (qB bd.sl 0 bT) (xu bd.eE True)) hT hI (by omega) (fun bT bU fs hk _=>Ms (Nat.le_refl _) hk) ops.toList 0 te _ [] rfl h1 rfl
   obtain⟨h1,h2⟩:=h
   refine Qp (fun s:la.St=>(jO (la.bd s).sl ((lv ||| lK b) &&& (2 ^ 400-1-(defs a))) 0 te,sH (la.bd s) tS)) (fun s=>cI (la.bd s).eE) ((kE hT hI a (i+1) (lv ||| lK b) te tS _ h1).mono fun e bT bU hq => ?_) fun s hg=>kE hT hI b (i+1+cnt a) lv _ _ Q (cN _ (cg _ (jb (Hr h2 s) hg)))
   cases e with
   | normal =>
    obtain⟨s,hs⟩:=sW hq
    obtain⟨k1,k2,-⟩:=IK hs
    exact⟨s,k1,k2⟩
   | exit id=>exact hq
   | ret=>exact hq
  ·refine Mr ((kE hT hI a (i+1) (lv ||| lK b) te tS _ h).mono fun e te tS hq => ?_)
   cases e with
   | normal=>exact kE hT hI b _ _ te tS Q hq
   | exit id=>exact hq
   | ret=>exact hq
 | .loop c,i,lv,te,tS,Q,h=>by
  simp only[wv] at h
  split at h
  ·refine Jm (by unfold LL; omega) (SC (fun te tS K' hf=>(kE hT hI c _ _ te tS _ hf).mono fun e te tS hq => ?_) _ te tS h)
   cases e with
   | normal=>exact hq
   | exit id=>exact hq
   | ret=>exact hq
  ·rename_i la _ _
   obtain⟨h1,h2⟩:=h
   obtain⟨s0,h1⟩:=sW h1
   obtain⟨k1,k2,k3⟩:=OI h1
   refine Qo (fun s:la.St=>(jO (la.bd s).sl ((lv ||| lK c) &&& (2 ^ 400-1-(defs c))) 0 te,sH (la.bd s) tS)) (fun s=>cI (la.bd s).eE) (fun s=>(la.bd s).m) s0 k1 k2 k3 fun s hg=>(kE hT hI c (i+1) (lv ||| lK c) _ _ _ (cN _ (cg _ (jb (Hr h2 s) hg)))).mono fun e bT bU hq => ?_
   cases e with
   | normal =>
    obtain⟨s',hs⟩:=sW hq
    obtain⟨k1,k2,k3⟩:=IK hs
    exact⟨s',k1,k2,k3⟩
   | exit id=>exact hq
   | ret=>exact hq
  ·exact h.elim
 | .region id ops draw,i,lv,te,tS,Q,h=>Jn hT hI h
 | .rangeFunc ..,_,_,_,_,_,h=>(by simp only[wv] at h)
 | .goto _,_,_,_,_,_,h=>(by simp only[wv] at h)
 | .refuse _,_,_,_,_,_,h=>(by simp only[wv] at h)
theorem wI {K K':TV→List TV→List Prop→Prop} (hK:∀ v cs f,K v cs f→K' v cs f):∀ {s:qO},s.some K→s.some K'
 | .ex _ k,⟨x,h⟩=>⟨x,wI (s:=k x) hK h⟩
 | .res _ _ _,h=>hK _ _ _ h
theorem Mi {F:List TV→List TB→Prop} {E:DX→List TV→List TB→Prop} (h1:∀ te tS,F te tS→E .normal te tS∧E .ret te tS):∀ {e:DX} {te:List TV} {tS:List TB},LD F e te tS→E e te tS
 | .normal,_,_,h=>(h1 _ _ h).1
 | .ret,_,_,h=>(h1 _ _ h).2
 | .exit _,_,_,h=>h.elim
theorem ZM {rs:List ResultVar} {kz:List (Option TT)} {s:qO} (h:U8 ty rs kz s te tS):Vk ty rs kz (fun v=>s.qZ v) .normal te tS∧Vk ty rs kz (fun v=>s.qZ v) .ret te tS:=by
 unfold U8 at h
 split at h
 ·rename_i vs hv
  have h:=cg (xw tS vs) (K:=fun vs=>aL (vs.all eC&&(refs (iP (bk kz vs))).isEmpty) (s.some fun v _ facts=>ask (Ul (iP (bk kz vs)) v) (cI facts)) False) h
  obtain⟨h0,h⟩:=jU h
  simp only[Bool.and_eq_true,List.isEmpty_iff] at h0
  have:∃ vs,xk ty te tS rs=some vs∧(xw tS vs).all eC=true∧refs (iP (bk kz (xw tS vs)))=[]∧s.qZ (iP (bk kz (xw tS vs))):=by
   refine⟨vs,hv,h0.1,h0.2,wI (fun v cs f hk => ?_) h⟩
   obtain⟨l,h1,h2,h3⟩:=iM hk
   exact⟨B3 h1 h2,h3⟩
  exact⟨⟨trivial,this⟩,trivial,this⟩
 ·exact h.elim
theorem ZN {rs:List ResultVar} {kz mV:List (Option TT)} {s:qO} (h:U9 ty rs kz mV s te tS):LJ ty rs kz mV (fun v cs=>s.holds v cs) .normal te tS∧LJ ty rs kz mV (fun v cs=>s.holds v cs) .ret te tS:=by
 unfold U9 at h
 split at h
 ·rename_i vs ts l hv
  obtain⟨h0,h⟩:=jU h
  simp only[Bool.and_eq_true,List.isEmpty_iff] at h0
  have:s.holds (iP (bk kz vs)) (bk mV ts):=by
   refine wI (fun v cs f hk => ?_) h
   obtain⟨l,h1,h2,hk⟩:=iM hk
   obtain⟨l',h3,h4,h5⟩:=iM hk
   exact⟨B3 h1 h2,ry h3 h4,h5⟩
  exact⟨⟨trivial,vs,ts,hv,h0.1.1,h0.1.2,rfl,h0.2.1,h0.2.2,this⟩,trivial,vs,ts,hv,h0.1.1,h0.1.2,rfl,h0.2.1,h0.2.2,this⟩
 ·exact h.elim
theorem ZL {rs:List ResultVar} {mV:List (Option TT)} {s:qO} (h:U7 ty rs mV s te tS):Vj ty rs mV (fun cs=>s.uq cs) .normal te tS∧Vj ty rs mV (fun cs=>s.uq cs) .ret te tS:=by
 unfold U7 at h
 split at h
 ·rename_i ts l hv
  obtain⟨h0,h⟩:=jU h
  simp only[Bool.and_eq_true,List.isEmpty_iff] at h0
  have:s.uq (bk mV ts):=by
   refine wI (fun v cs f hk => ?_) h
   obtain⟨l',h3,h4,h5⟩:=iM hk
   exact⟨ry h3 h4,h5⟩
  exact⟨⟨trivial,ts,hv,rfl,h0.1,h0.2,this⟩,trivial,ts,hv,rfl,h0.1,h0.2,this⟩
 ·exact h.elim
theorem V2:∀ {vs:List TV} {ds:List DV},cG ι S vs ds→RT ι S (iP vs) (oneOf ds)
 | [],ds,h=>by rw[aM h]; simp only[iP,oneOf,RT]; exact bL
 | [v],ds,h=>by
  obtain⟨d,m',rfl,h1,h2⟩:=aj h
  rw[aM h2]; exact h1
 | v::u::l,ds,h=>by
  obtain⟨d,m',rfl,h1,h2⟩:=aj h
  obtain⟨d',m'',rfl,h3,h4⟩:=aj h2
  simp only[iP,oneOf,RT]
  exact aP h1 (aP h3 h4)
def XOK (P:Program) (T:gN):Prop:=∀ g fn j,T.X g=some (fn,j)→P.funcs[g]? = some fn∧fn.body.isSome=true
def Lev (P:Program) (ty:eS) (T:gN):Nat→bq→bg→Prop
 | 0,aD,call=>ow T aD call
 | d+1,aD,call=>ow T aD call∧∃ UF Ml yf',(∀ g fn,P.funcs[g]? = some fn→∀ a S,call g a S=qE P ty UF Ml yf' LL g fn a S)∧Lev P ty T d UF Ml
theorem wQ {d:Nat} (h:Lev P ty T d aD call):ow T aD call:=by
 cases d with
 | zero=>exact h
 | succ d=>exact h.1
theorem BZ (hX:XOK P T):∀ (d:Nat) {aD:bq} {call:bg},Lev P ty T d aD call→vu call T (Ll P ty tt T d)
 | 0,_,_,_=>fun _ _ _ _ _ _ _ h=>h.elim
 | d+1,aD,call,hL=>by
  obtain⟨-,UF,Ml,yf',hb,PI⟩:=hL
  intro g fn j A tS K hx hi ι bY S hR
  obtain⟨hf,hs⟩:=hX g fn j hx
  have hw:=kE (fn:=g) (gJ:=false) (yf:=yf') (wQ PI) (BZ hX d PI) _ _ _ _ _ _ (cg _ hi)
  have hlen:=fJ hR.env
  have jG:bS ι (Lk fn.ntmps A) tS (bY++List.replicate (fn.ntmps-bY.length) aV) S :=
   ⟨dO hR.env (by rw[hlen]; exact sR _ _),hR.cells,hR.own,hR.sw,hR.inj,hR.mp⟩
  obtain⟨e,az,S',ι',bT,bU,h1,h2,h3,h4,h5,h6⟩:=hw ι _ S jG V9
  have key:U6 ty fn.results.toList K bT bU→(e = .normal∨e = .ret)→∃ d S' ι' v bU,call g bY S=some (d,S')∧bS ι' [v] bU [d] S'∧lJ (ee 0 tS) bU∧Fr (ee 0 tS) ι S ι' S'∧Nn S.length S S'∧K v bU:=by
   intro hk he
   unfold U6 at hk
   split at hk
   ·rename_i vs hv
    obtain⟨ds,k1,k2⟩:=sS h2 hv
    refine⟨oneOf ds,S',ι',iP vs,bU,?_,⟨gn (V2 k2),h2.cells,h2.own,h2.sw,h2.inj,h2.mp⟩,h3,h4,h5,hk⟩
    rw[hb g fn hf]
    unfold xD at h1
    simp only[qE]
    cases hc:fn.body with
    | none=>rw[hc] at hs; cases hs
    | some c =>
     rw[hc] at h1
     simp only[Option.getD_some] at h1
     simp only[h1]
     rcases he with rfl | rfl<;>simp only[k1,Option.map_some]
   ·exact hk.elim
  cases e with
  | normal=>exact key h6 (.inl rfl)
  | ret=>exact key h6 (.inr rfl)
  | exit id=>exact h6.elim
def vcI (T:gN) (d:Nat) (f:Func) (kz:List (Option TT)) (J:List (Nat×LA)) (a:List TV) (s:qO):Prop:=cS (Lk f.ntmps a) fun te=>wv Tp Ty WH T (Ll Tp Ty WH T d) [] J (xD f) 0 (wM f.results.toList) te [] (LD (U8 Ty f.results.toList kz s))
def aag (T:gN) (d:Nat) (f:Func) (kz mV:List (Option TT)) (J:List (Nat×LA)) (a cs:List TV) (s:qO):Prop:=cS (Lk f.ntmps a) fun te=>wv Tp Ty WH T (Ll Tp Ty WH T d) [0] J (xD f) 0 (wM f.results.toList) te [.cells cs] (LD (U9 Ty f.results.toList kz mV s))
def vcN (T:gN) (d:Nat) (f:Func) (mV:List (Option TT)) (J:List (Nat×LA)) (a:List TV) (s:qO):Prop:=cS (Lk f.ntmps a) fun te=>wv Tp Ty WH T (Ll Tp Ty WH T d) [] J (xD f) 0 (wM f.results.toList) te [] (LD (U7 Ty f.results.toList mV s))
def lg (aZ:bq) (k:Nat) (T:gN):Prop:=XOK Tp T∧∀ n,ow T (Dc aZ (n+k)) (xS aZ (n+k))
def gN.dQ (T:gN) (f:FuncId) (S:List TV→Sp):gN:={ T with I:=fun g a=>if g=f then S a else T.I g a }
def gN.qp (T:gN) (f:FuncId) (S:List TV→List TV→Sp):gN:={ T with C:=fun g a c=>if g=f then S a c else T.C g a c }
def gN.Qi (T:gN) (f:FuncId) (S:List TV→Sp):gN:={ T with N:=fun g a=>if g=f then S a else T.N g a }
def gN.LH (T:gN) (f:FuncId) (fn:Func) (j:List (Nat×LA)):gN:={ T with X:=fun g=>if g=f then some (fn,j) else T.X g }
variable {aZ:bq} {k:Nat}
theorem iW (h:lg aZ k T):lg aZ (k+1) T:=⟨h.1,fun n=>by have:=h.2 (n+1); rwa [Nat.add_right_comm,Nat.add_assoc] at this⟩
theorem nu (h:lg aZ k T):∀ (d n:Nat),Lev Tp Ty T d (Dc aZ (n+(k+d))) (xS aZ (n+(k+d)))
 | 0,n=>h.2 n
 | d+1,n=>by
  refine⟨?_,Dc aZ (n+(k+d)),xS aZ (n+(k+d)),yfT aZ (n+(k+d)),fun g fn hf a S => ?_,nu h d n⟩
  ·have:=h.2 (n+(d+1)); rwa [Nat.add_assoc,Nat.add_comm (d+1) k] at this
  ·rw[show n+(k+(d+1))=(n+(k+d))+1 by omega]
   simp only[vq,cK,hf]
   rfl
theorem Hp {f:FuncId} {S:List TV→Sp} (hT:lg aZ k T) (h:∀ n a p s,S a=some (p,s)→cI p→oA (Dc aZ (n+k)) f a fun v=>s.qZ v):lg aZ k (T.dQ f S):=⟨hT.1,fun n=>⟨fun g a p s hs hp=>by
 simp only[gN.dQ] at hs
 split at hs
 ·rename_i e; subst e; exact h n a p s hs hp
 ·exact(hT.2 n).I g a p s hs hp,(hT.2 n).C,(hT.2 n).N⟩⟩
theorem Y7 {f:FuncId} {S:List TV→List TV→Sp} (hT:lg aZ k T) (h:∀ n a cs p s,S a cs=some (p,s)→cI p→vw (xS aZ (n+k)) f a cs fun v cs=>s.holds v cs):lg aZ k (T.qp f S):=⟨hT.1,fun n=>⟨(hT.2 n).I,fun g a cs p s hs hp=>by
 simp only[gN.qp] at hs
 split at hs
 ·rename_i e; subst e; exact h n a cs p s hs hp
 ·exact(hT.2 n).C g a cs p s hs hp,(hT.2 n).N⟩⟩
theorem Y6 {f:FuncId} {S:List TV→Sp} (hT:lg aZ k T) (h:∀ n a p s,S a=some (p,s)→cI p→xG (Dc aZ (n+k)) (xS aZ (n+k)) f a fun cs=>s.uq cs):lg aZ k (T.Qi f S):=⟨hT.1,fun n=>⟨(hT.2 n).I,(hT.2 n).C,fun g a p s hs hp=>by
 simp only[gN.Qi] at hs
 split at hs
 ·rename_i e; subst e; exact h n a p s hs hp
 ·exact(hT.2 n).N g a p s hs hp⟩⟩
theorem LM {f:FuncId} {fn:Func} {j:List (Nat×LA)} (hT:lg aZ k T) (hf:Tp.funcs[f]? = some fn) (hb:fn.body.isSome=true):lg aZ k (T.LH f fn j):=⟨fun g rY j' hx=>by
 simp only[gN.LH] at hx
 split at hx
 ·rename_i e; subst e; cases hx; exact⟨hf,hb⟩
 ·exact hT.1 g rY j' hx,fun n=>⟨(hT.2 n).I,(hT.2 n).C,(hT.2 n).N⟩⟩
def T0:gN where
 I:=fun g a=>match g,a with
  | 13,[]=>some ([],.res (mX true) [] [])
  | _,_=>none
 C:=fun _ _ _=>none
 N:=fun _ _=>none
theorem iz (tk:sC aZ):lg aZ 0 T0:=by
 refine⟨fun _ _ _ h=>(by cases h),fun n=>⟨fun g a p s hs _ => ?_,fun _ _ _ _ _ hs=>(by cases hs),fun _ _ _ _ hs=>(by cases hs)⟩⟩
 simp only[T0] at hs
 split at hs
 ·cases hs
  intro bY hd
  rw[aM hd]
  refine⟨.val (.bool true),mX true,?_,rfl,by simp only[RT],rfl,rfl,trivial⟩
  simp only[vY,iC,tk.fit,DV.pure,DV.gz,if_true]
 ·cases hs
end Go.Tv
end
