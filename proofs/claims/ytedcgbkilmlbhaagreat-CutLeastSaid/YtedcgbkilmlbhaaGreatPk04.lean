import Derived.Test.YtedcgbkilmlbhaaGreatPk03
section
namespace Go.Tv
open Go Go.Di
def lX:List TB→List TB
 | []=>[]
 | b::l=>match lX l,b with
  | [],.none=>[]
  | l',b=>b::l'
theorem D6:∀ tS:List TB,∃ n,tS=lX tS++List.replicate n .none
 | []=>⟨0,rfl⟩
 | b::l=>by
  obtain⟨n,h⟩:=D6 l
  simp only[lX]
  split
  ·rename_i e
   rw[e] at h
   exact⟨n+1,by rw[h]; rfl⟩
  ·exact⟨n,by rw[List.cons_append,← h]⟩
inductive uN:List TV→List TV→Prop
 | nil:uN [] []
 | unk {v:TV} {l m:List TV}:uN l m→uN (.unk::l) (v::m)
 | same {v:TV} {l m:List TV}:uN l m→uN (v::l) (v::m)
 | no {t:TT} {x:List t.den} {ap:Ap} {l m:List TV}:uN l m→uN (.sl t x .no::l) (.sl t x ap::m)
 | nQ {t:TT} {g:Nat} {l m:List TV}:uN l m→uN (.sl t [] (.nQ g)::l) (.sl t [] .full::m)
 | gZ {t:TT} {ap:Ap} {l m:List TV}:uN l m→uN (.sl t [] ap::l) (.gZ::m)
 | agg {a b l m:List TV}:uN a b→uN l m→uN (.agg a::l) (.agg b::m)
theorem uN.refl:∀ l:List TV,uN l l
 | [] => .nil
 | _::l => .same (uN.refl l)
mutual
def refs:TV→List Nat
 | .sl _ _ (.nQ g)=>[g]
 | .ptr id _=>[id]
 | .mp id=>[id]
 | .so g _=>[g]
 | .sp g _ _ _=>[g]
 | .agg l=>iD l
 | .gI l=>iD l
 | .fn _ a b=>iD a++iD b
 | _=>[]
def iD:List TV→List Nat
 | []=>[]
 | a::l=>refs a++iD l
end
inductive Bz:List TB→List TB→Prop
 | nil {l:List TB}:Bz [] l
 | none {b:TB} {l m:List TB}:Bz l m→Bz (.none::l) (b::m)
 | own {e s:Nat} {l m:List TB}:Bz l m→Bz (.own e s::l) (.own e s::m)
 | new {e s:Nat} {l:List TB}:Bz l []→Bz (.own e s::l) []
 | cells {a b:List TV} {l m:List TB}:uN a b→Bz l m→Bz (.cells a::l) (.cells b::m)
 | map {kt:TT} {c:List kt.den} {l m:List TB}:Bz l m→Bz (.map kt c::l) (.map kt c::m)
 | rows {t:TT} {e:Nat} {c:List t.den} {z:Bool} {l m:List TB}:Bz l m→Bz (.rows t e c z::l) (.rows t e c z::m)
def nw (tS:List TB) (k:Nat):Bool :=
 match tS[k]? with
 | some .none | none=>false
 | _=>true
def Cg:List TB→List Nat
 | []=>[]
 | .cells a::l=>iD a++Cg l
 | _::l=>Cg l
def okB (te:List TV) (tS:List TB):Bool:=(iD te++Cg tS).all (nw tS)
variable {P:Program} {ty:gF} {tt:TypeId→Option TT} {ι ι' w:lW} {S S':av} {te mh:List TV} {env:List DV} {tS jh:List TB} {aI:bP} {call:bM} {yf:eW} {o:Oper} {aB nT:Nat} {B:List Nat} {r:TR} {ops:Array Oper}
theorem Im {l m:List TV} (h:uN l m):∀ {ds:List DV},dg ι S m ds→dg ι S l ds:=by
 induction h with
 | nil=>exact id
 | unk _ ih=>intro ds hd; obtain⟨d,m',rfl,h1,h2⟩:=ak hd; exact aY (by simp only[RT]) (ih h2)
 | same _ ih=>intro ds hd; obtain⟨d,m',rfl,h1,h2⟩:=ak hd; exact aY h1 (ih h2)
 | no _ ih =>
  intro ds hd
  obtain⟨d,m',rfl,h1,h2⟩:=ak hd
  refine aY ?_ (ih h2)
  cases d<;>simp only[RT] at h1 ⊢
  exact⟨h1.1,trivial⟩
 | nQ _ ih =>
  intro ds hd
  obtain⟨d,m',rfl,h1,h2⟩:=ak hd
  refine aY ?_ (ih h2)
  cases d<;>simp only[RT] at h1 ⊢
  exact⟨h1.1,.inl ⟨h1.2.1,h1.2.2,kz h1.1⟩⟩
 | gZ _ ih =>
  rename_i ap _ _ _
  intro ds hd
  obtain⟨d,m',rfl,h1,h2⟩:=ak hd
  refine aY ?_ (ih h2)
  cases d<;>simp only[RT] at h1 ⊢
  obtain⟨rfl,rfl,rfl⟩:=h1
  refine⟨trivial,?_⟩
  cases ap with
  | no=>trivial
  | full=>exact⟨rfl,rfl⟩
  | nQ g=>exact .inl ⟨rfl,rfl,rfl⟩
 | agg _ _ Lf M7 =>
  intro ds hd
  obtain⟨d,m',rfl,h1,h2⟩:=ak hd
  refine aY ?_ (M7 h2)
  cases d<;>simp only[RT] at h1 ⊢
  exact Lf h1
mutual
theorem TU:∀ (v:TV) (d:DV),(∀ k∈refs v,ι' k=ι k)→RT ι S v d→RT ι' S v d
 | .unk,_,_,_=>by simp only[RT]
 | .val _,d,_,k=>by cases d<;>simp only[RT] at k ⊢; exact k
 | .gZ,d,_,k=>by cases d<;>simp only[RT] at k ⊢; exact k
 | .agg l,d,h,k=>by cases d<;>simp only[RT] at k ⊢; exact nJ l _ h k
 | .gI l,d,h,k=>by cases d<;>simp only[RT] at k ⊢; exact nJ l _ h k
 | .sl t l .no,d,_,k=>by cases d<;>simp only[RT] at k ⊢; exact k
 | .sl t l .full,d,_,k=>by cases d<;>simp only[RT] at k ⊢; exact k
 | .sl t l (.nQ g),d,h,k=>by
  cases d<;>simp only[RT,s4] at k ⊢
  rw[h g (by simp[refs])]
  exact k
 | .ptr id off,d,h,k=>by
  cases d<;>simp only[RT] at k ⊢
  rw[h id (by simp[refs])]
  exact k
 | .eS t l i off,d,_,k=>by cases d<;>simp only[RT] at k ⊢; exact k
 | .mp id,d,h,k=>by
  cases d<;>simp only[RT] at k ⊢
  rw[h id (by simp[refs])]
  exact k
 | .so g t,d,h,k=>by
  cases d<;>simp only[RT] at k ⊢
  rw[h g (by simp[refs])]
  exact k
 | .sp g t i off,d,h,k=>by
  cases d<;>simp only[RT] at k ⊢
  rw[h g (by simp[refs])]
  exact k
 | .fn f a b,d,h,k=>by
  cases d<;>simp only[RT] at k ⊢
  exact⟨k.1,nJ a _ (fun j hj=>h j (by simp[refs,hj])) k.2.1,nJ b _ (fun j hj=>h j (by simp[refs,hj])) k.2.2⟩
theorem nJ:∀ (l:List TV) (m:List DV),(∀ k∈iD l,ι' k=ι k)→dg ι S l m→dg ι' S l m
 | [],m,_,k=>by rw[aW k]; exact cz
 | a::l,m,h,k=>by
  obtain⟨d,m',rfl,h1,h2⟩:=ak k
  exact aY (TU a d (fun j hj=>h j (by simp[iD,hj])) h1) (nJ l m' (fun j hj=>h j (by simp[iD,hj])) h2)
end
theorem zb {l m:List TB} (h:Bz l m):∀ {k:Nat} {b:TB},l[k]? = some b→b = .none∨(∃ e s,b = .own e s∧(m[k]? = some (.own e s)∨m[k]? = none))∨(∃ a c,b = .cells a∧m[k]? = some (.cells c)∧uN a c)∨(m[k]? = some b∧(∀ l,b ≠ .cells l)∧∀ e s,b ≠ .own e s):=by
 induction h with
 | nil=>intro k b hb; simp at hb
 | none _ ih =>
  intro k b hb
  cases k with
  | zero=>simp only[List.getElem?_cons_zero,az] at hb; exact .inl hb.symm
  | succ k=>simpa using ih (k:=k) (by simpa using hb)
 | own _ ih =>
  intro k b hb
  cases k with
  | zero=>simp only[List.getElem?_cons_zero,az] at hb; subst hb; exact .inr (.inl ⟨_,_,rfl,.inl rfl⟩)
  | succ k=>simpa using ih (k:=k) (by simpa using hb)
 | new _ ih =>
  intro k b hb
  cases k with
  | zero=>simp only[List.getElem?_cons_zero,az] at hb; subst hb; exact .inr (.inl ⟨_,_,rfl,.inr rfl⟩)
  | succ k=>simpa using ih (k:=k) (by simpa using hb)
 | cells hl _ ih =>
  intro k b hb
  cases k with
  | zero=>simp only[List.getElem?_cons_zero,az] at hb; subst hb; exact .inr (.inr (.inl ⟨_,_,rfl,rfl,hl⟩))
  | succ k=>simpa using ih (k:=k) (by simpa using hb)
 | map _ ih =>
  intro k b hb
  cases k with
  | zero=>simp only[List.getElem?_cons_zero,az] at hb; subst hb; exact .inr (.inr (.inr ⟨rfl,by simp,by simp⟩))
  | succ k=>simpa using ih (k:=k) (by simpa using hb)
 | rows _ ih =>
  intro k b hb
  cases k with
  | zero=>simp only[List.getElem?_cons_zero,az] at hb; subst hb; exact .inr (.inr (.inr ⟨rfl,by simp,by simp⟩))
  | succ k=>simpa using ih (k:=k) (by simpa using hb)
theorem CO {k:Nat} {a:List TV}:∀ {tS:List TB} {j:Nat},tS[j]? = some (.cells a)→k∈iD a→k∈Cg tS
 | [],_,h,_=>by simp at h
 | b::l,0,h,hk=>by
  simp only[List.getElem?_cons_zero,az] at h
  subst h
  simp[Cg,hk]
 | b::l,j+1,h,hk=>by
  have:=CO (tS:=l) (j:=j) (by simpa using h) hk
  cases b<;>simp[Cg,this]
theorem Ax (h:cM ι te tS env S) (hl:uN mh te) (hb:Bz jh tS) (jr:okB mh jh=true) (hB:ow B jh):∃ ι1,cM ι1 mh jh env S∧Fr B ι S ι1 S∧(∀ k,ι1 k=if nw jh k then ι k else none):=by
 simp only[okB,lu,aG,bh] at jr
 refine⟨fun k=>if nw jh k then ι k else none,⟨?_,fun k l hk => ?_,fun k e s hk t ht => ?_,fun k k' hk => ?_,fun i j k' hi hj => ?_,fun k b hk t ht => ?_⟩,⟨fun _ _ _=>rfl,fun k k' hk => ?_,fun k hk => ?_⟩,fun _=>rfl⟩
 ·refine nJ _ _ (fun k hk => ?_) (Im hl h.env)
  rw[if_pos (jr.1 k hk)]
 ·rcases zb hb hk with e | ⟨_,_,e,-⟩ | ⟨a,c,e,h1,h2⟩ | ⟨_,e,-⟩
  ·cases e
  ·cases e
  rotate_left
  ·exact absurd rfl (e _)
  ·cases e
   obtain⟨k',ds,n1,n2,n3⟩:=h.cells k c h1
   refine⟨k',ds,?_,n2,nJ _ _ (fun j hj => ?_) (Im h2 n3)⟩
   ·have:nw jh k=true:=by simp only[nw,hk]
    rw[if_pos this]; exact n1
   ·rw[if_pos (jr.2 j (CO hk hj))]
 ·split at ht
  ·rcases zb hb hk with e' | ⟨_,_,e',h1⟩ | ⟨a,c,e',h1,h2⟩ | ⟨_,-,e'⟩
   rotate_left 3
   ·exact absurd rfl (e' _ _)
   ·cases e'
   ·cases e'
    rcases h1 with h1 | h1
    ·exact h.own k e s h1 t ht
    ·obtain⟨b,h2,-⟩:=h.xH k t ht
     rw[h1] at h2; cases h2
   ·cases e'
  ·cases ht
 ·split at hk
  ·rename_i jA
   unfold nw at jA
   split at jA
   ·cases jA
   ·cases jA
   ·rename_i b NI EX
    cases hx:jh[k]? with
    | none=>exact(EX hx).elim
    | some b=>exact⟨b,rfl,fun e=>NI (by rw[hx,e])⟩
  ·cases hk
 ·split at hi
  ·split at hj
   ·exact h.inj i j k' hi hj
   ·cases hj
  ·cases hi
 ·split at ht
  ·rcases zb hb hk with e' | ⟨_,_,e',-⟩ | ⟨_,_,e',-⟩ | ⟨h1,-⟩
   ·subst e'; trivial
   ·subst e'; trivial
   ·subst e'; trivial
   ·exact h.mp k _ h1 t ht
  ·cases ht
 ·split at hk
  ·exact .inl ⟨k,hk⟩
  ·cases hk
 ·obtain⟨l,h1⟩:=hB k hk
  have:nw jh k=true:=by simp only[nw,h1]
  simp only[this,if_true]
theorem AV (hb:Bz jh tS) (hB:ow B tS) (h:∀ k,k∈B→nw jh k=true):ow B jh:=by
 intro k hk
 have h1:=h k hk
 obtain⟨l,h2⟩:=hB k hk
 unfold nw at h1
 split at h1
 ·cases h1
 ·cases h1
 ·rename_i b NI EX
  cases hx:jh[k]? with
  | none=>exact(EX hx).elim
  | some b =>
   rcases zb hb hx with e | ⟨_,_,e,h3⟩ | ⟨a,c,e,-,-⟩ | ⟨h3,e,-⟩
   ·exact(NI (by rw[hx,e])).elim
   ·rw[h2] at h3; rcases h3 with h3 | h3<;>cases h3
   ·exact⟨a,by rw[e]⟩
   ·rw[h2] at h3; cases h3; exact absurd rfl (e _)
theorem F5 (h:cM ι te tS env S):cM ι te (lX tS) env S:=by
 obtain⟨n,hn⟩:=D6 tS
 have hT:∀ (k:Nat) (b:TB),b ≠ .none→(tS[k]? = some b↔(lX tS)[k]? = some b):=by
  intro k b hb
  conv=>lhs; rw[hn]
  rw[pX]
  split
  ·rfl
  ·rename_i hlt
   rw[fE (l:=lX tS) (by omega),mN]
   split
   ·exact⟨fun e=>by cases e; exact(hb rfl).elim,fun e=>by cases e⟩
   ·exact Iff.rfl
 refine⟨h.env,fun k l hk=>h.cells k l ((hT _ _ (fun e=>by cases e)).2 hk),fun k e s hk=>h.own k e s ((hT _ _ (fun e=>by cases e)).2 hk),fun k k' hk => ?_,h.inj,fun k b hk t ht=>by
  cases b with
  | none=>trivial
  | _=>exact h.mp k _ ((hT _ _ (fun e=>by cases e)).2 hk) t ht⟩
 obtain⟨b,h1,h2⟩:=h.xH k k' hk
 exact⟨b,(hT _ _ h2).1 h1,h2⟩
theorem GC (hB:ow B tS):ow B (lX tS):=by
 intro k hk
 obtain⟨l,h1⟩:=hB k hk
 obtain⟨n,hn⟩:=D6 tS
 refine⟨l,?_⟩
 rw[hn,pX] at h1
 split at h1
 ·exact h1
 ·rw[mN] at h1
  split at h1<;>cases h1
section
variable (P:Program) (ty:gF) (aI:bP) (call:bM) (yf:eW) (B:List Nat) (L:Nat) (fn:FuncId) (iA:Bool)
def WT (c:Code) (te:List TV) (tS:List TB) (Q:DX→List TV→List TB→Prop):Prop :=
 ∀ ι env S,cM ι te tS env S→ow B tS→∃ e aC S' ι' cL cN,cG P ty aI call yf L fn iA c env S=some (e,aC,S')∧cM ι' cL cN aC S'∧ow B cN∧Fr B ι S ι' S'∧Nn S.length S S'∧Q e cL cN
end
section
variable {L:Nat} {fn:FuncId} {iA:Bool} {a b c:Code} {Q Q':DX→List TV→List TB→Prop}
theorem WT.mono (h:WT P ty aI call yf B L fn iA c te tS Q) (hq:∀ e te tS,Q e te tS→Q' e te tS):WT P ty aI call yf B L fn iA c te tS Q':=by
 intro ι env S hR hB
 obtain⟨e,aC,S',ι',cL,cN,h1,h2,h3,h4,h5,h6⟩:=h ι env S hR hB
 exact⟨e,aC,S',ι',cL,cN,h1,h2,h3,h4,h5,hq _ _ _ h6⟩
theorem S9 (h:Q .normal te tS):WT P ty aI call yf B L fn iA .skip te tS Q:=fun ι env S hR hB=>⟨.normal,env,S,ι,te,tS,rfl,hR,hB,Fr.refl _ _ _,fJ _ _,h⟩
theorem PN {l:Nat} (h:Q .normal te tS):WT P ty aI call yf B L fn iA (.label l) te tS Q:=fun ι env S hR hB=>⟨.normal,env,S,ι,te,tS,rfl,hR,hB,Fr.refl _ _ _,fJ _ _,h⟩
theorem Te {id:Nat} (h:Q (.exit id) te tS):WT P ty aI call yf B L fn iA (.exit id) te tS Q:=fun ι env S hR hB=>⟨.exit id,env,S,ι,te,tS,rfl,hR,hB,Fr.refl _ _ _,fJ _ _,h⟩
theorem X8 (h:Q .ret te tS):WT P ty aI call yf B L fn iA .ret te tS Q:=fun ι env S hR hB=>⟨.ret,env,S,ι,te,tS,rfl,hR,hB,Fr.refl _ _ _,fJ _ _,h⟩
theorem PJ (h:WT P ty aI call yf B L fn iA c te tS Q):WT P ty aI call yf B L fn iA (.scope c) te tS Q:=fun ι env S hR hB=>by
 obtain⟨e,aC,S',ι',cL,cN,h1,h2⟩:=h ι env S hR hB
 exact⟨e,aC,S',ι',cL,cN,by simp only[cG,h1],h2⟩
theorem OX (h:WT P ty aI call yf B L fn iA a te tS fun e te tS=>match e with | .normal=>WT P ty aI call yf B L fn iA b te tS Q | e=>Q e te tS):WT P ty aI call yf B L fn iA (.seq a b) te tS Q:=by
 intro ι env S hR hB
 obtain⟨e,aC,S',ι',cL,cN,h1,h2,h3,h4,h5,h6⟩:=h ι env S hR hB
 cases e with
 | normal =>
  obtain⟨e,oR,tI,ι'',tM,tN,k1,k2,k3,k4,k5,k6⟩:=h6 ι' aC S' h2 h3
  exact⟨e,oR,tI,ι'',tM,tN,by simp only[cG,h1,k1],k2,k3,h4.trans k4,rA h5 k5,k6⟩
 | exit id=>exact⟨_,aC,S',ι',cL,cN,by simp only[cG,h1],h2,h3,h4,h5,h6⟩
 | ret=>exact⟨_,aC,S',ι',cL,cN,by simp only[cG,h1],h2,h3,h4,h5,h6⟩
theorem Tf {x:Operand} {t:Bool} (hx:gE te x=some (.val (.bool t))) (h1:t=true→WT P ty aI call yf B L fn iA a te tS Q) (h2:t=false→WT P ty aI call yf B L fn iA b te tS Q):WT P ty aI call yf B L fn iA (.cond x a b) te tS Q:=by
 intro ι env S hR hB
 obtain⟨d,k1,k2⟩:=bt hR.env hx
 cases d<;>simp only[RT] at k2
 subst k2
 cases t with
 | true =>
  obtain⟨e,aC,S',ι',cL,cN,m1,m2⟩:=h1 rfl ι env S hR hB
  exact⟨e,aC,S',ι',cL,cN,by simp only[cG,k1,m1],m2⟩
 | false =>
  obtain⟨e,aC,S',ι',cL,cN,m1,m2⟩:=h2 rfl ι env S hR hB
  exact⟨e,aC,S',ι',cL,cN,by simp only[cG,k1,m1],m2⟩
theorem PR {id:Nat} (h:WT P ty aI call yf B L fn iA c te tS fun e te tS=>match e with | .exit iT=>Q (if iT=id then .normal else .exit iT) te tS | e=>Q e te tS):WT P ty aI call yf B L fn iA (.block id c) te tS Q:=by
 intro ι env S hR hB
 obtain⟨e,aC,S',ι',cL,cN,h1,h2,h3,h4,h5,h6⟩:=h ι env S hR hB
 cases e with
 | normal=>exact⟨_,aC,S',ι',cL,cN,by simp only[cG,h1],h2,h3,h4,h5,h6⟩
 | exit iT=>exact⟨_,aC,S',ι',cL,cN,by simp only[cG,h1],h2,h3,h4,h5,h6⟩
 | ret=>exact⟨_,aC,S',ι',cL,cN,by simp only[cG,h1],h2,h3,h4,h5,h6⟩
theorem Ta (hl:uN mh te) (hb:Bz jh tS) (jr:okB mh jh=true) (hB:∀ k,k∈B→nw jh k=true) (h:WT P ty aI call yf B L fn iA c mh jh Q):WT P ty aI call yf B L fn iA c te tS Q:=by
 intro ι env S hR Vq
 have RS:=AV hb Vq hB
 obtain⟨ι1,h1,h2,-⟩:=Ax hR hl hb jr RS
 obtain⟨e,aC,S',ι',cL,cN,m1,m2,m3,m4,m5⟩:=h ι1 env S h1 RS
 exact⟨e,aC,S',ι',cL,cN,m1,m2,m3,h2.trans m4,m5⟩
structure Fits (B:List Nat) (mh:List TV) (jh:List TB) (te:List TV) (tS:List TB):Prop where
 l:uN mh te
 b:Bz jh tS
 ok:okB mh jh=true
 base:∀ k,k∈B→nw jh k=true
theorem PM {id:Nat} (h:WL P ty aI call yf B ops 0 te tS fun te tS=>Q .normal te (lX tS)):WT P ty aI call yf B L fn iA (.region id ops false) te tS Q:=by
 intro ι env S hR hB
 obtain⟨aC,S',ι',cL,cN,h1,h2,h3,h4,h5,h6⟩:=h ι env S hR hB
 refine⟨.normal,aC,S',ι',cL,lX cN,?_,F5 h2,GC h3,h4,h5,h6⟩
 rw[lq] at h1
 simp only[cG,nX,aD,if_false,h1,Option.map_some]
theorem PK {id:Nat} (hd:j8 ops (Region.before ops)=true) (hl:tc P ops=false) (h:WQ P ty aI call yf ops tS 0 te fun te=>Q .normal te tS):WT P ty aI call yf B L fn iA (.region id ops true) te tS Q:=by
 intro ι env S hR hB
 obtain⟨aC,cL,h1,h2,h3⟩:=h ι env S hR
 refine⟨.normal,aC,S,ι,cL,tS,?_,h2,hB,Fr.refl _ _ _,fJ _ _,h3⟩
 rw[lq] at h1
 simp only[tc,Bool.or_eq_false_iff] at hl
 simp only[cG,nX,if_true,hd,hl.2,fD,aD,if_false,h1,Option.map_some]
theorem PO {id:Nat} (hd:j8 ops (Region.before ops)=true) (hn:tc P ops=true) (h:WD P ty aI call yf B ops 0 te (tS++List.replicate ops.size .none) [] fun te tS=>Q .normal te (lX tS)):WT P ty aI call yf B L fn iA (.region id ops true) te tS Q:=by
 intro ι env S hR hB
 have lR:=Ua hR ops.size ops.size
 obtain⟨w,hw⟩:=HY lR
 have hB':ow B (tS++List.replicate ops.size .none):=fun k hk=>by
  obtain⟨l,h1⟩:=hB k hk
  exact⟨l,by rw[eG (aJ.1 h1).1]; exact h1⟩
 obtain⟨aC,S',zB,ι',w',cL,cN,ft,h1,h2,-,h4,h5,h6,h7,h8,h9⟩:=h ι w env (S++List.replicate ops.size .none) S.length lR hB' hw (fun j _ hj=>by
  rw[gr (by omega),mN,if_pos (by omega)])
 refine⟨.normal,aC,S',ι',cL,lX cN,?_,F5 h5,GC h6,⟨fun k' hl hno => ?_,fun k k' hk => ?_,h7.base⟩,⟨?_,fun j hj eZ => ?_⟩,h9⟩
 ·rw[lq] at h1
  simp only[cG,nX,if_true,hd,fD,aD,if_false,MF hn,h1,YP h2 (by simpa using h4),Option.map_some]
 ·have e:=ext_get (n:=ops.size) hl
  rw[h7.rest k' (by obtain⟨b,e1,e2⟩:=hl; exact⟨b,e.trans e1,e2⟩) hno]
  exact e
 ·refine(h7.ours k k' hk).imp (fun e=>e) fun Nd hl=>Nd ?_
  obtain⟨b,e1,e2⟩:=hl
  exact⟨b,(ext_get ⟨b,e1,e2⟩).trans e1,e2⟩
 ·have:=h8.1
  rw[bU] at this
  omega
 ·have hlt:=(aJ.1 eZ).1
  exact h8.2 j (fun i _ _=>by omega) (by rw[eG hlt]; exact eZ)
end
end Go.Tv
end
section
namespace Go.Tv
open Go Go.Di
def DK:TV→Bool
 | .val v => !(v matches .tuple _)
 | .gZ | .sl _ _ _=>true
 | _=>false
def gf:TV→Bool
 | .agg l=>l.all DK
 | .val _ | .gZ | .sl _ _ _=>true
 | _=>false
def oQ:TV→TV
 | .sl k l _ => .sl k l .no
 | .gZ => .unk
 | v=>v
def j5:Option TT→TV→TV
 | some (.sl e),.gZ => .sl e [] .no
 | _,.gZ => .unk
 | _,.sl k l _ => .sl k l .no
 | some t,.agg l=>match t.of l with
  | some (x,[]) => .agg (t.cells x)
  | _ => .agg (l.map oQ)
 | none,.agg l => .agg (l.map oQ)
 | _,v=>v
def bN:List (Option TT)→List TV→List TV
 | _,[]=>[]
 | [],v::l=>j5 none v::bN [] l
 | t::ts,v::l=>j5 t v::bN ts l
def iK (tt:TypeId→Option TT) (fs:List TV) (argTypes:Array TypeId):List (Option TT):=fs.map (fun _=>none)++argTypes.toList.map tt
variable {P:Program} {ty:gF} {tt:TypeId→Option TT} {ι ι' w:lW} {S S':av} {te mh:List TV} {env:List DV} {tS jh:List TB} {aI:bP} {call:bM} {yf:eW} {o:Oper} {aB nT:Nat} {B:List Nat} {r:TR} {ops:Array Oper}
mutual
theorem sB:∀ (v:TV) (d:DV),refs v=[]→RT ι S v d→RT ι' S' v d
 | .unk,_,_,_=>by simp only[RT]
 | .val _,d,_,k=>by cases d<;>simp only[RT] at k ⊢; exact k
 | .gZ,d,_,k=>by cases d<;>simp only[RT] at k ⊢; exact k
 | .agg l,d,h,k=>by cases d<;>simp only[RT] at k ⊢; exact iP l _ h k
 | .gI l,d,h,k=>by cases d<;>simp only[RT] at k ⊢; exact iP l _ h k
 | .sl t l .no,d,_,k=>by cases d<;>simp only[RT] at k ⊢; exact k
 | .sl t l .full,d,_,k=>by cases d<;>simp only[RT] at k ⊢; exact k
 | .sl t l (.nQ g),d,h,k=>by simp[refs] at h
 | .ptr id off,d,h,k=>by simp[refs] at h
 | .eS t l i off,d,_,k=>by cases d<;>simp only[RT] at k ⊢; exact k
 | .mp id,d,h,k=>by simp[refs] at h
 | .so g t,d,h,k=>by simp[refs] at h
 | .sp g t i off,d,h,k=>by simp[refs] at h
 | .fn f a b,d,h,k=>by
  cases d<;>simp only[RT] at k ⊢
  simp only[refs,List.append_eq_nil_iff] at h
  exact⟨k.1,iP a _ h.1 k.2.1,iP b _ h.2 k.2.2⟩
theorem iP:∀ (l:List TV) (m:List DV),iD l=[]→dg ι S l m→dg ι' S' l m
 | [],m,_,k=>by rw[aW k]; exact cz
 | a::l,m,h,k=>by
  obtain⟨d,m',rfl,h1,h2⟩:=ak k
  simp only[iD,List.append_eq_nil_iff] at h
  exact aY (sB a d h.1 h1) (iP l m' h.2 h2)
end
theorem GL {v:TV} {d:DV} (hp:DK v=true) (h:RT ι S v d):d.aQ.bS=true∧RT ι' S' (oQ v) d.aQ:=by
 cases v<;>first | (cases hp; done) | skip
 ·cases d<;>simp only[RT] at h
  subst h
  exact⟨hp,by simp only[oQ,RT,DV.aQ]⟩
 ·cases d<;>simp only[RT] at h
  exact⟨rfl,by simp only[oQ,RT]⟩
 ·cases d<;>simp only[RT] at h
  exact⟨rfl,by simp only[oQ,RT,DV.aQ]; exact⟨h.1,trivial⟩⟩
theorem x9:∀ {l:List TV} {m:List DV},l.all DK=true→dg ι S l m→(m.map DV.aQ).all DV.bS=true∧dg ι' S' (l.map oQ) (m.map DV.aQ)
 | [],m,_,h=>by rw[aW h]; exact⟨rfl,cz⟩
 | a::l,m,hp,h=>by
  obtain⟨d,m',rfl,h1,h2⟩:=ak h
  simp only[List.all_cons,aG] at hp
  obtain⟨k1,k2⟩:=GL (ι':=ι') (S':=S') hp.1 h1
  obtain⟨k3,k4⟩:=x9 hp.2 h2
  exact⟨by simp[k1] at k3 ⊢; exact k3,aY k2 k4⟩
theorem AB:∀ {t:TT} {l:List TV} {x:t.den} {r:List TV} {m:List DV},t.of l=some (x,r)→dg ι S l m→∃ c m',m=c++m'∧dg ι' S' (t.cells x) c∧dg ι S r m'
 | .int k,l,x,r,m,h,hm=>by
  simp only[TT.of] at h
  unfold ofInt at h
  split at h
  ·split at h
   ·rename_i hk
    cases h
    obtain⟨d,m',rfl,h1,h2⟩:=ak hm
    cases d<;>simp only[RT] at h1
    subst h1
    subst hk
    exact⟨[_],m',rfl,iW (by simp only[RT]),h2⟩
   ·cases h
  ·cases h
 | .bool,l,x,r,m,h,hm=>by
  simp only[TT.of] at h
  unfold ofBool at h
  split at h
  ·cases h
   obtain⟨d,m',rfl,h1,h2⟩:=ak hm
   cases d<;>simp only[RT] at h1
   subst h1
   exact⟨[_],m',rfl,iW (by simp only[RT]),h2⟩
  ·cases h
 | .str,l,x,r,m,h,hm=>by
  simp only[TT.of] at h
  unfold ofStr at h
  split at h
  ·cases h
   obtain⟨d,m',rfl,h1,h2⟩:=ak hm
   cases d<;>simp only[RT] at h1
   subst h1
   exact⟨[_],m',rfl,iW (by simp only[RT]),h2⟩
  ·cases h
 | .unit,l,x,r,m,h,hm=>by
  simp only[TT.of] at h
  cases h
  exact⟨[],m,rfl,cz,hm⟩
 | .pair a b,l,x,r,m,h,hm=>by
  simp only[TT.of] at h
  split at h
  ·rename_i x1 r1 h1
   split at h
   ·rename_i y r2 h2
    cases h
    obtain⟨c,m1,rfl,k1,k2⟩:=AB h1 hm
    obtain⟨c',m2,rfl,k3,k4⟩:=AB h2 k2
    exact⟨c++c',m2,by simp,fu k1 k3,k4⟩
   ·cases h
  ·cases h
 | .sl t,l,x,r,m,h,hm=>by
  simp only[TT.of] at h
  unfold SI at h
  split at h
  ·split at h
   ·rename_i ht
    subst ht
    cases h
    obtain⟨d,m',rfl,h1,h2⟩:=ak hm
    cases d<;>simp only[RT] at h1
    exact⟨[_],m',rfl,iW (by simp only[RT]; exact⟨h1.1,trivial⟩),h2⟩
   ·cases h
  ·cases h
   obtain⟨d,m',rfl,h1,h2⟩:=ak hm
   cases d<;>simp only[RT] at h1
   obtain⟨rfl,rfl,rfl⟩:=h1
   exact⟨[_],m',rfl,iW (by simp only[RT,ek]; exact⟨trivial,trivial⟩),h2⟩
  ·cases h
theorem kU {t:Option TT} {v:TV} {d:DV} (hp:gf v=true) (h:RT ι S v d):d.strip.pure=true∧(∀ l,d ≠ .gI l)∧RT ι' S' (j5 t v) d.strip:=by
 cases v with
 | agg l =>
  cases d<;>simp only[RT] at h
  rename_i m
  obtain⟨k1,k2⟩:=x9 (ι':=ι') (S':=S') hp h
  refine⟨k1,fun _ e=>(by cases e),?_⟩
  cases t with
  | none=>simp only[j5,RT,DV.strip,DV.di]; exact k2
  | some t =>
   have e:j5 (some t) (.agg l)=match t.of l with | some (x,[]) => .agg (t.cells x) | _ => .agg (l.map oQ):=by cases t<;>rfl
   rw[e]
   split
   ·rename_i x ho
    obtain⟨c,m',rfl,n1,n2⟩:=Ci ho h
    rw[aW n2,eU]
    simp only[RT,DV.strip,DV.di]
    exact nM n1
   ·simp only[RT,DV.strip,DV.di]; exact k2
 | val u =>
  cases d<;>simp only[RT] at h
  rename_i u'
  subst h
  refine⟨rfl,fun _ e=>(by cases e),?_⟩
  have e:j5 t (.val u') = .val u':=by cases t with | none=>rfl | some t=>cases t<;>rfl
  rw[e]
  simp only[RT,DV.strip,DV.di]
 | gZ =>
  cases d<;>simp only[RT] at h
  obtain⟨rfl,rfl,rfl⟩:=h
  refine⟨rfl,fun _ e=>(by cases e),?_⟩
  cases t with
  | none=>simp only[j5,RT]
  | some t =>
   cases t with
   | sl e=>simp only[j5,RT,DV.strip,DV.di,ek]; exact⟨trivial,trivial⟩
   | _=>simp only[j5,RT]
 | sl k l ap =>
  cases d<;>simp only[RT] at h
  refine⟨rfl,fun _ e=>(by cases e),?_⟩
  have e:j5 t (.sl k l ap) = .sl k l .no:=by cases t with | none=>rfl | some t=>cases t<;>rfl
  rw[e]
  simp only[RT,DV.strip,DV.di]
  exact⟨h.1,trivial⟩
 | _=>cases hp
theorem uv {t:Option TT} {v:TV} {d:DV} (hp:gf v=true) (h:RT ι S v d):RT ι' S' (j5 t v) d:=by
 have n1:∀ {l:List TV} {m:List DV},l.all DK=true→dg ι S l m→dg ι' S' (l.map oQ) m:=by
  intro l
  induction l with
  | nil=>intro m _ h; rw[aW h]; exact cz
  | cons a l ih =>
   intro m hp h
   obtain⟨d,m',rfl,h1,h2⟩:=ak h
   simp only[List.all_cons,aG] at hp
   refine aY ?_ (ih hp.2 h2)
   cases a<;>first | (cases hp.1; done) | skip
   ·cases d<;>simp only[RT] at h1
    simp only[oQ,RT]; exact h1
   ·simp only[oQ,RT]
   ·cases d<;>simp only[RT] at h1
    simp only[oQ,RT]; exact⟨h1.1,trivial⟩
 cases v with
 | agg l =>
  cases d<;>simp only[RT] at h
  rename_i m
  cases t with
  | none=>simp only[j5,RT]; exact n1 hp h
  | some t =>
   have e:j5 (some t) (.agg l)=match t.of l with | some (x,[]) => .agg (t.cells x) | _ => .agg (l.map oQ):=by cases t<;>rfl
   rw[e]
   split
   ·rename_i x ho
    obtain⟨c,m',rfl,k1,k2⟩:=AB (ι':=ι') (S':=S') ho h
    rw[aW k2,eU]
    simp only[RT]
    exact k1
   ·simp only[RT]; exact n1 hp h
 | val u =>
  cases d<;>simp only[RT] at h
  have e:j5 t (.val u) = .val u:=by cases t with | none=>rfl | some t=>cases t<;>rfl
  rw[e]
  simp only[RT]
  exact h
 | gZ =>
  cases d<;>simp only[RT] at h
  obtain⟨rfl,rfl,rfl⟩:=h
  cases t with
  | none=>simp only[j5,RT]
  | some t =>
   cases t with
   | sl e=>simp only[j5,RT,ek]; exact⟨trivial,trivial⟩
   | _=>simp only[j5,RT]
 | sl k l ap =>
  cases d<;>simp only[RT] at h
  have e:j5 t (.sl k l ap) = .sl k l .no:=by cases t with | none=>rfl | some t=>cases t<;>rfl
  rw[e]
  simp only[RT]
  exact⟨h.1,trivial⟩
 | _=>cases hp
theorem jV:∀ {ts:List (Option TT)} {l:List TV} {m:List DV},l.all gf=true→dg ι S l m→(m.map DV.strip).all DV.pure=true∧dg ι' S' (bN ts l) (m.map DV.strip)
 | _,[],m,_,h=>by rw[aW h]; exact⟨rfl,by simp only[bN,fB]; exact cz⟩
 | [],a::l,m,hp,h=>by
  obtain⟨d,m',rfl,h1,h2⟩:=ak h
  simp only[List.all_cons,aG] at hp
  obtain⟨k1,-,k2⟩:=kU (t:=none) (ι':=ι') (S':=S') hp.1 h1
  obtain⟨k3,k4⟩:=jV (ts:=[]) hp.2 h2
  refine⟨?_,by simp only[bN,bT]; exact aY k2 k4⟩
  rw[bT,List.all_cons,k1,k3]; rfl
 | t::ts,a::l,m,hp,h=>by
  obtain⟨d,m',rfl,h1,h2⟩:=ak h
  simp only[List.all_cons,aG] at hp
  obtain⟨k1,-,k2⟩:=kU (t:=t) (ι':=ι') (S':=S') hp.1 h1
  obtain⟨k3,k4⟩:=jV (ts:=ts) hp.2 h2
  refine⟨?_,by simp only[bN,bT]; exact aY k2 k4⟩
  rw[bT,List.all_cons,k1,k3]; rfl
theorem jW:∀ {ts:List (Option TT)} {l:List TV} {m:List DV},l.all gf=true→dg ι S l m→dg ι' S' (bN ts l) m
 | _,[],m,_,h=>by rw[aW h]; simp only[bN]; exact cz
 | [],a::l,m,hp,h=>by
  obtain⟨d,m',rfl,h1,h2⟩:=ak h
  simp only[List.all_cons,aG] at hp
  simp only[bN]
  exact aY (uv hp.1 h1) (jW hp.2 h2)
 | t::ts,a::l,m,hp,h=>by
  obtain⟨d,m',rfl,h1,h2⟩:=ak h
  simp only[List.all_cons,aG] at hp
  simp only[bN]
  exact aY (uv hp.1 h1) (jW hp.2 h2)
def ej:lW:=fun _=>none
def qR (aI:bP) (g:FuncId) (targs:List TV) (Q:TV→Prop):Prop :=
 ∀ cR,dg ej [] targs cR→∃ d v,aI g cR=some d∧d.pure=true∧RT ej [] v d∧refs v=[]∧Q v
theorem qR.mono {g:FuncId} {targs:List TV} {Q Q':TV→Prop} (h:qR aI g targs Q) (hq:∀ v,Q v→Q' v):qR aI g targs Q':=fun cR hd=>by
 obtain⟨d,v,h1,h2,h3,h4,h5⟩:=h cR hd
 exact⟨d,v,h1,h2,h3,h4,hq v h5⟩
theorem kV (hE:dg ι S te env) {f:Operand} {args:Array Operand} {g:FuncId} {fs cs xs:List TV} (hf:gE te f=some (.fn g fs cs)) (ha:nP te args.toList=some xs) :
  ∃ zB iU Lb,iB env f=some (.fn g zB iU)∧evs (iB env) args.toList=some Lb∧dg ι S (fs++xs++cs) (zB++Lb++iU):=by
 obtain⟨d,k1,k2⟩:=bt hE hf
 obtain⟨Lb,k3,k4⟩:=rZ hE ha
 cases d<;>simp only[RT] at k2
 obtain⟨rfl,k5,k6⟩:=k2
 exact⟨_,_,Lb,k1,k3,fu (fu k5 k4) k6⟩
theorem Bm {f:Operand} {args:Array Operand} {argTypes:Array TypeId} {g:FuncId} {fs cs xs targs:List TV} {Q:TV→Prop} (hop:o.op = .call { callee := .value f,args,argTypes }) (hh:ty.h o≠1) (hf:gE te f=some (.fn g fs cs)) (ha:nP te args.toList=some xs) (hp:(fs++xs++cs).all gf=true)
  (hn:bN (iK tt fs argTypes) (fs++xs++cs)=targs) (hs:qR aI g targs Q) (dr:Bool):Does P ty aI call yf B o nT te tS dr fun v cL cN ft=>Q v∧cL=te∧cN=tS∧ft=⟨some [],false⟩:=by
 intro ι w env S aB hR hB hw hT RN hS
 obtain⟨zB,iU,Lb,k1,k2,k3⟩:=kV hR.env hf ha
 obtain⟨k4,k5⟩:=jV (ts:=iK tt fs argTypes) (ι':=ej) (S':=[]) hp k3
 rw[hn] at k5
 obtain⟨d,v,m1,m2,m3,m4,m5⟩:=hs _ k5
 refine⟨d,S,ι,w,v,te,tS,⟨some [],false⟩,⟨some [],false⟩,fun _ => ?_,fun hd => ?_,⟨id,fun l hl=>⟨[],rfl,fun j hj=>(by cases hj)⟩⟩,fun l m _ hm j hj=>(by cases hm; cases hj),hR,sB _ _ m4 m3,hw,fun _ _ _=>rfl,Fr.refl _ _ _,hB,fJ _ _,m5,rfl,rfl,rfl⟩
 ·simp only[af,hop,k1,k2,u6,k4,if_true,m1]
 ·simp only[aH,hop,k1,k2,if_neg hh,k4,if_true,m1,Option.map_some]
theorem PT {k:Nat} {f:Operand} {args:Array Operand} {argTypes:Array TypeId} {g:FuncId} {fs cs xs targs:List TV} {K:TV→Prop} {Q:List TV→Prop} (ho:ops[k]? = some o) (hw:er ops te o=some true) (hop:o.op = .call { callee := .value f,args,argTypes }) (hh:ty.h o≠1) (hf:gE te f=some (.fn g fs cs)) (ha:nP te args.toList=some xs) (hp:(fs++xs++cs).all gf=true)
  (hn:bN (iK tt fs argTypes) (fs++xs++cs)=targs) (hs:qR aI g targs K) (h:∀ v,K v→WQ P ty aI call yf ops tS (k+1) (lY te o.dst v) Q):WQ P ty aI call yf ops tS k te Q:=by
 intro ι env S hR
 obtain⟨zB,iU,Lb,k1,k2,k3⟩:=kV hR.env hf ha
 obtain⟨k4,k5⟩:=jV (ts:=iK tt fs argTypes) (ι':=ej) (S':=[]) hp k3
 rw[hn] at k5
 obtain⟨d,v,m1,m2,m3,m4,m5⟩:=hs _ k5
 obtain⟨aC,cL,n1,n2,n3⟩:=h v m5 ι (jj env o.dst d) S (mz hR (sB _ _ m4 m3) _)
 refine⟨aC,cL,?_,n2,n3⟩
 rw[mF ho]
 have hq:cS P ty aI call yf (iB env) o S=some d:=by simp only[cS,hop,k1,k2,if_neg hh,k4,if_true,m1]
 simp only[oy,gO hR.env hw,if_true,hq,n1]
def isRef:TV→Bool
 | .ptr _ _ | .fn _ _ _=>true
 | _=>false
def S3 (kp:Nat) (t:Option TT):TV→Option TV
 | .ptr k off=>if k=kp then some (.ptr 0 off) else none
 | v=>if gf v then some (j5 t v) else none
def FI (kp:Nat):List TV→Option (List TV)
 | []=>some []
 | v::l=>match S3 kp none v,FI kp l with
  | some a,some b=>some (a::b)
  | _,_=>none
def S5 (kp:Nat) (t:Option TT):TV→Option TV
 | .fn g fs cs=>match FI kp fs,FI kp cs with
  | some a,some b=>some (.fn g a b)
  | _,_=>none
 | v=>S3 kp t v
def u7 (kp:Nat):List (Option TT)→List TV→Option (List TV)
 | _,[]=>some []
 | [],v::l=>match S5 kp none v,u7 kp [] l with
  | some a,some b=>some (a::b)
  | _,_=>none
 | t::ts,v::l=>match S5 kp t v,u7 kp ts l with
  | some a,some b=>some (a::b)
  | _,_=>none
def jg (id:Nat):lW:=fun j=>if j=0 then some id else none
theorem KZ {kp id:Nat} {t:Option TT} {v v':TV} {d:DV} (hk:ι kp=some id) (h:S3 kp t v=some v') (hv:RT ι S v d):RT (jg id) S v' d:=by
 unfold S3 at h
 split at h
 ·split at h
  ·rename_i k off Li
   subst Li
   cases h
   cases d<;>simp only[RT] at hv ⊢
   rw[hk] at hv
   exact⟨hv.1,hv.2⟩
  ·cases h
 ·split at h
  ·rename_i hp
   cases h
   exact uv hp hv
  ·cases h
theorem AU {kp id:Nat} (hk:ι kp=some id):∀ {l l':List TV} {m:List DV},FI kp l=some l'→dg ι S l m→dg (jg id) S l' m
 | [],l',m,h,hv=>by cases h; rw[aW hv]; exact cz
 | v::l,l',m,h,hv=>by
  obtain⟨d,m',rfl,h1,h2⟩:=ak hv
  simp only[FI] at h
  split at h
  ·rename_i a b e1 e2
   cases h
   exact aY (KZ hk e1 h1) (AU hk e2 h2)
  ·cases h
theorem K5 {kp id:Nat} {t:Option TT} {v v':TV} {d:DV} (hk:ι kp=some id) (h:S5 kp t v=some v') (hv:RT ι S v d):RT (jg id) S v' d:=by
 unfold S5 at h
 split at h
 ·split at h
  ·rename_i g fs cs a b e1 e2
   cases h
   cases d<;>simp only[RT] at hv ⊢
   exact⟨hv.1,AU hk e1 hv.2.1,AU hk e2 hv.2.2⟩
  ·cases h
 ·exact KZ hk h hv
theorem AW {kp id:Nat} (hk:ι kp=some id):∀ {ts:List (Option TT)} {l l':List TV} {m:List DV},u7 kp ts l=some l'→dg ι S l m→dg (jg id) S l' m
 | _,[],l',m,h,hv=>by simp only[u7] at h; cases h; rw[aW hv]; exact cz
 | [],v::l,l',m,h,hv=>by
  obtain⟨d,m',rfl,h1,h2⟩:=ak hv
  simp only[u7] at h
  split at h
  ·rename_i a b e1 e2
   cases h
   exact aY (K5 hk e1 h1) (AW hk e2 h2)
  ·cases h
 | t::ts,v::l,l',m,h,hv=>by
  obtain⟨d,m',rfl,h1,h2⟩:=ak hv
  simp only[u7] at h
  split at h
  ·rename_i a b e1 e2
   cases h
   exact aY (K5 hk e1 h1) (AW hk e2 h2)
  ·cases h
theorem uh:∀ {l:List TV} {m:List DV},l.any isRef=true→dg ι S l m→(m.map DV.strip).all DV.pure=false
 | [],_,h,_=>by cases h
 | v::l,m,h,hv=>by
  obtain⟨d,m',rfl,h1,h2⟩:=ak hv
  simp only[List.any_cons,iq] at h
  rw[bT,List.all_cons]
  rcases h with h | h
  ·cases v<;>first | (cases h; done) | skip
   ·cases d<;>simp only[RT] at h1; rfl
   ·cases d<;>simp only[RT] at h1; rfl
  ·rw[uh h h2,mI]
def x5 (call:bM) (g:FuncId) (targs ts:List TV) (Q:TV→List TV→Prop):Prop :=
 ∀ ι cR S,cM ι targs [.cells ts] cR S→∃ d S' ι' v wm k' gW,call g cR S=some (d,S')∧RT ι' S' v d∧refs v=[]∧iD wm=[]∧ι 0=some k'∧S'[k']? = some (.cells gW)∧dg ι' S' wm gW∧Fr [0] ι S ι' S'∧Nn S.length S S'∧Q v wm
theorem x5.mono {g:FuncId} {targs ts:List TV} {Q Q':TV→List TV→Prop} (h:x5 call g targs ts Q) (hq:∀ v ts,Q v ts→Q' v ts):x5 call g targs ts Q':=fun ι cR S hd=>by
 obtain⟨d,S',ι',v,wm,k',gW,h1,h2,h3,h4,h5,h6,h7,h8,h9,wB⟩:=h ι cR S hd
 exact⟨d,S',ι',v,wm,k',gW,h1,h2,h3,h4,h5,h6,h7,h8,h9,hq _ _ wB⟩
theorem Ji {f:Operand} {args:Array Operand} {argTypes:Array TypeId} {g:FuncId} {fs cs xs targs ts:List TV} {kp:Nat} {Q:TV→List TV→Prop} (hop:o.op = .call { callee := .value f,args,argTypes }) (hh:ty.h o≠1) (hf:gE te f=some (.fn g fs cs)) (ha:nP te args.toList=some xs)
  (hn:u7 kp (iK tt fs argTypes) (fs++xs++cs)=some targs) (hr:(fs++xs++cs).any isRef=true) (Ww:tS[kp]? = some (.cells ts)) (Nc:iD ts=[]) (hs:x5 call g targs ts Q):Does P ty aI call yf B o nT te tS false fun v cL cN ft=>∃ wm,Q v wm∧cL=te∧cN=tS.set kp (.cells wm)∧ft=⟨none,true⟩:=by
 intro ι w env S aB hR hB hw hT RN hS
 obtain⟨zB,iU,Lb,k1,k2,k3⟩:=kV hR.env hf ha
 obtain⟨iT,ds,k6,m2,m3⟩:=hR.cells kp ts Ww
 have hc:cM (jg iT) targs [.cells ts] (zB++Lb++iU) S:=by
  refine⟨AW k6 hn k3,fun k l hk => ?_,fun k e s hk => ?_,fun k k' hk => ?_,fun i j k' hi hj => ?_,fun k b hk t ht=>by cases k with | zero=>cases hk; trivial | succ k=>simp at hk⟩
  ·cases k with
   | zero =>
    cases hk
    exact⟨iT,ds,rfl,m2,iP _ _ Nc m3⟩
   | succ k=>simp at hk
  ·cases k<;>simp at hk
  ·by_cases h0:k=0
   ·subst h0; exact⟨_,rfl,fun e=>by cases e⟩
   ·simp only[jg,h0,if_false] at hk; cases hk
  ·by_cases zA:i=0<;>by_cases Lj:j=0
   ·rw[zA,Lj]
   ·simp only[jg,Lj,if_false] at hj; cases hj
   ·simp only[jg,zA,if_false] at hi; cases hi
   ·simp only[jg,zA,if_false] at hi; cases hi
 obtain⟨d,S',ι',v,wm,k',gW,n1,n2,n3,n4,n5,n6,n7,n8,n9,n10⟩:=hs _ _ S hc
 simp only[jg,if_true,az] at n5
 subst n5
 have qw:∀ k k0,k≠kp→ι k=some k0→S'[k0]? = S[k0]? := by
  intro k k0 hk h0
  refine n8.rest k0 (hR.live h0) fun j hj => ?_
  by_cases Lj:j=0
  ·subst Lj
   simp only[jg,if_true,az] at hj
   subst hj
   exact hk (hR.inj _ _ _ h0 k6)
  ·simp only[jg,Lj,if_false] at hj; cases hj
 have K:lH ι S ι S' fun _=>False:=fun k k0 _ hk=>⟨hk,by
  by_cases Li:k=kp
  ·subst Li
   rw[k6] at hk
   cases hk
   exact y9 (by rw[m2]; simp) (by rw[m2]; simp)
  ·exact fH (qw k k0 Li hk)⟩
 have hnp:=uh hr k3
 refine⟨d,S',ι,w,v,te,tS.set kp (.cells wm),⟨none,true⟩,⟨none,true⟩,fun _ => ?_,fun hd=>(by cases hd),⟨fun e=>e,fun l hl=>(by cases hl)⟩,fun l m hl=>(by cases hl),?_,sB _ _ n3 n2,hw,fun _ _ _=>rfl,⟨fun k0 hl hno=>n8.rest k0 hl fun j hj => ?_,fun k k0 hk => .inl ⟨k,hk⟩,fun _ _=>rfl⟩,fun k hk => ?_,⟨n9.1,fun j hj eZ => ?_⟩,wm,n10,rfl,rfl,rfl⟩
 ·simp only[af,hop,k1,k2,u6,hnp,aD,if_false,n1]
 ·refine⟨bW K _ _ hR.env,fun k l hk => ?_,fun k e s hk t ht => ?_,fun k k0 hk => ?_,hR.inj,fun k b hk t ht=>by
   rw[aP] at hk
   split at hk
   ·split at hk<;>cases hk
    trivial
   ·rename_i e1
    rw[qw k t (fun e=>e1 e.symm) ht]; exact hR.mp k b hk t ht⟩
  ·rw[aP] at hk
   split at hk
   ·rename_i e1
    subst e1
    split at hk
    ·cases hk
     exact⟨iT,gW,k6,n6,iP _ _ n4 n7⟩
    ·cases hk
   ·rename_i e1
    obtain⟨k0,NN,q1,q2,q3⟩:=hR.cells k l hk
    exact⟨k0,NN,q1,by rw[qw k k0 (Ne.symm e1) q1]; exact q2,bW K _ _ q3⟩
  ·rw[aP] at hk
   split at hk
   ·split at hk<;>cases hk
   ·obtain⟨n,q1⟩:=hR.own k e s hk t ht
    exact⟨n,(K k t (fun e=>e) ht).2.1 _ _ _ q1⟩
  ·rw[aP]
   split
   ·rename_i e1
    subst e1
    exact⟨_,if_pos (aJ.1 Ww).1,fun e=>by cases e⟩
   ·exact hR.xH k k0 hk
 ·by_cases Lj:j=0
  ·subst Lj
   simp only[jg,if_true,az] at hj
   subst hj
   exact hno _ k6
  ·simp only[jg,Lj,if_false] at hj; cases hj
 ·rw[aP]
  split
  ·rename_i e1
   subst e1
   exact⟨_,if_pos (aJ.1 Ww).1⟩
  ·exact hB k hk
 ·have:=(aJ.1 eZ).1
  exact n9.2 j (by omega) eZ
def uZ:TV→Bool
 | .val v => !(v matches .tuple _)
 | .sl _ _ .no=>true
 | _=>false
def FE:TV→Bool
 | .agg l=>l.all uZ
 | .val _ | .sl _ _ .no=>true
 | _=>false
def JQ:TV→Bool
 | .gI l=>l.all FE
 | v=>FE v
theorem He {v:TV} {d:DV} (hp:uZ v=true) (h:RT ι S v d):d.aQ.bS=true∧RT ι' S' v d.aQ:=by
 cases v<;>first | (cases hp; done) | skip
 ·cases d<;>simp only[RT] at h
  subst h
  exact⟨hp,by simp only[RT,DV.aQ]⟩
 ·rename_i t l ap
  cases ap<;>first | (cases hp; done) | skip
  cases d<;>simp only[RT] at h
  exact⟨rfl,by simp only[RT,DV.aQ]; exact⟨h.1,trivial⟩⟩
theorem mP:∀ {l:List TV} {m:List DV},l.all uZ=true→dg ι S l m→(m.map DV.aQ).all DV.bS=true∧dg ι' S' l (m.map DV.aQ)
 | [],m,_,h=>by rw[aW h]; exact⟨rfl,cz⟩
 | a::l,m,hp,h=>by
  obtain⟨d,m',rfl,h1,h2⟩:=ak h
  simp only[List.all_cons,aG] at hp
  obtain⟨k1,k2⟩:=He (ι':=ι') (S':=S') hp.1 h1
  obtain⟨k3,k4⟩:=mP hp.2 h2
  exact⟨by rw[bT,List.all_cons,k1,k3]; rfl,aY k2 k4⟩
theorem yt {v:TV} {d:DV} (hp:FE v=true) (h:RT ι S v d):d.di.jf=true∧RT ι' S' v d.di:=by
 cases v<;>first | (cases hp; done) | skip
 ·cases d<;>simp only[RT] at h
  subst h
  exact⟨rfl,by simp only[RT,DV.di]⟩
 ·cases d<;>simp only[RT] at h
  obtain⟨k1,k2⟩:=mP (ι':=ι') (S':=S') hp h
  exact⟨k1,by simp only[RT,DV.di]; exact k2⟩
 ·rename_i t l ap
  cases ap<;>first | (cases hp; done) | skip
  cases d<;>simp only[RT] at h
  exact⟨rfl,by simp only[RT,DV.di]; exact⟨h.1,trivial⟩⟩
theorem wh:∀ {l:List TV} {m:List DV},l.all FE=true→dg ι S l m→(m.map DV.di).all DV.jf=true∧dg ι' S' l (m.map DV.di)
 | [],m,_,h=>by rw[aW h]; exact⟨rfl,cz⟩
 | a::l,m,hp,h=>by
  obtain⟨d,m',rfl,h1,h2⟩:=ak h
  simp only[List.all_cons,aG] at hp
  obtain⟨k1,k2⟩:=yt (ι':=ι') (S':=S') hp.1 h1
  obtain⟨k3,k4⟩:=wh hp.2 h2
  exact⟨by rw[bT,List.all_cons,k1,k3]; rfl,aY k2 k4⟩
theorem G9 {v:TV} {d:DV} (hp:JQ v=true) (h:RT ι S v d):d.strip.pure=true∧RT ι' S' v d.strip:=by
 by_cases hd:∃ l,d = .gI l
 ·obtain⟨m,rfl⟩:=hd
  cases v<;>simp only[RT] at h<;>first | (cases hp; done) | skip
  obtain⟨k1,k2⟩:=wh (ι':=ι') (S':=S') hp h
  exact⟨k1,by simp only[RT,DV.strip]; exact k2⟩
 ·have hv:FE v=true:=by
   cases v<;>first | exact hp | skip
   cases d<;>simp only[RT] at h
   exact(hd ⟨_,rfl⟩).elim
  obtain⟨k1,k2⟩:=yt (ι':=ι') (S':=S') hv h
  have e:d.strip=d.di:=by cases d<;>first | rfl | exact(hd ⟨_,rfl⟩).elim
  refine⟨?_,by rw[e]; exact k2⟩
  rw[e]
  have:∀ c:DV,c.jf=true→(∀ l,c ≠ .gI l)→c.pure=true:=fun c h hn=>by cases c<;>first | exact h | exact(hn _ rfl).elim
  refine this _ k1 fun l hl => ?_
  cases d<;>simp only[DV.di] at hl<;>first | (cases hl; done) | exact hd ⟨_,rfl⟩
theorem Hh {f:Operand} {args:Array Operand} {argTypes:Array TypeId} {g:FuncId} {fs cs xs rest ts:List TV} {kp off:Nat} {Q:TV→List TV→Prop} (hop:o.op = .call { callee := .value f,args,argTypes }) (hh:ty.h o≠1) (hf:gE te f=some (.fn g fs cs)) (ha:nP te args.toList=some xs)
  (hl:fs++xs++cs = .ptr kp off::rest) (hp:rest.all gf=true) (Ww:tS[kp]? = some (.cells ts)) (uM:ts.all uZ=true) (hs:x5 call g (.ptr 0 off::bN (iK tt fs argTypes).tail rest) ts Q) (hq:∀ v wm,Q v wm→JQ v=true∧wm.all uZ=true) :
  Does P ty aI call yf B o nT te tS true fun v cL cN ft=>∃ wm,Q v wm∧cL=te∧cN=tS.set kp (.cells wm)∧ft=⟨some [kp],true⟩:=by
 intro ι w env S aB hR hB hw hT RN hS
 obtain⟨zB,iU,Lb,k1,k2,k3⟩:=kV hR.env hf ha
 obtain⟨iT,ds,k6,m2,m3⟩:=hR.cells kp ts Ww
 rw[hl] at k3
 obtain⟨d0,m0,hm0,Sf,HF⟩:=ak k3
 have HJ:d0 = .ptr iT off:=by
  cases d0<;>simp only[RT] at Sf
  obtain⟨e1,e2⟩:=Sf
  rw[k6] at e1
  cases e1
  rw[e2]
 subst HJ
 obtain⟨p1,p2⟩:=jV (ts:=(iK tt fs argTypes).tail) (ι':=jg 0) (S':=[.cells (ds.map DV.aQ)]) hp HF
 obtain⟨c1,c2⟩:=mP (ι':=jg 0) (S':=[.cells (ds.map DV.aQ)]) uM m3
 have hc:cM (jg 0) (.ptr 0 off::bN (iK tt fs argTypes).tail rest) [.cells ts] (.ptr 0 off::m0.map DV.strip) [.cells (ds.map DV.aQ)]:=by
  refine⟨aY (by simp only[RT]; exact⟨rfl,trivial⟩) p2,fun k l hk => ?_,fun k e s hk => ?_,fun k k' hk => ?_,fun i j k' hi hj => ?_,fun k b hk t ht=>by cases k with | zero=>cases hk; trivial | succ k=>simp at hk⟩
  ·cases k with
   | zero =>
    cases hk
    exact⟨0,_,rfl,rfl,c2⟩
   | succ k=>simp at hk
  ·cases k<;>simp at hk
  ·by_cases h0:k=0
   ·subst h0; exact⟨_,rfl,fun e=>by cases e⟩
   ·simp only[jg,h0,if_false] at hk; cases hk
  ·by_cases zA:i=0<;>by_cases Lj:j=0
   ·rw[zA,Lj]
   ·simp only[jg,Lj,if_false] at hj; cases hj
   ·simp only[jg,zA,if_false] at hi; cases hi
   ·simp only[jg,zA,if_false] at hi; cases hi
 obtain⟨d,S1,ι1,v,wm,k',gW,n1,n2,n3,n4,n5,n6,n7,n8,n9,n10⟩:=hs _ _ _ hc
 simp only[jg,if_true,az] at n5
 subst n5
 obtain⟨q1,q2⟩:=hq _ _ n10
 obtain⟨r1,r2⟩:=G9 (ι':=ι) (S':=S.set iT (.cells (gW.map DV.aQ))) q1 n2
 obtain⟨r3,r4⟩:=mP (ι':=ι) (S':=S.set iT (.cells (gW.map DV.aQ))) q2 n7
 have abE:∃ T,S1 = .cells gW::T:=by
  cases S1 with
  | nil=>simp at n6
  | cons a T=>simp only[List.getElem?_cons_zero,az] at n6; exact⟨T,by rw[n6]⟩
 obtain⟨T,rfl⟩:=abE
 have hid:iT<S.length:=(aJ.1 m2).1
 have qw:∀ k0,k0≠iT→(S.set iT (.cells (gW.map DV.aQ)))[k0]? = S[k0]? := fun k0 h=>by rw[aP,if_neg fun e=>h e.symm]
 have hkp:∀ k,k≠kp→∀ k0,ι k=some k0→k0≠iT:=fun k hk k0 h0 e=>hk (hR.inj _ _ _ (e▸h0) k6)
 have K:lH ι S ι (S.set iT (.cells (gW.map DV.aQ))) fun _=>False:=fun k k0 _ hk=>⟨hk,by
  by_cases Li:k0=iT
  ·subst Li
   exact y9 (by rw[m2]; simp) (by rw[m2]; simp)
  ·exact fH (qw k0 Li)⟩
 have hnp:((zB++Lb++iU).map DV.strip).all DV.pure=false:=by rw[hm0]; rfl
 have ho:xO call g (zB++Lb++iU) S=some (iT,d.strip,gW.map DV.aQ):=by
  rw[hm0]
  simp only[xO,m2,p1,c1,gm,if_true,n1,r1,r3]
 refine⟨d.strip,S.set iT (.cells (gW.map DV.aQ)),ι,w,v,te,tS.set kp (.cells wm),⟨some [iT],true⟩,⟨some [kp],true⟩,fun hd=>(by cases hd),fun _ => ?_,⟨fun e=>e,fun l hl => ?_⟩,fun l m hl hm j hj => ?_,?_,r2,hw,fun _ _ _=>rfl,⟨fun k0 hl hno=>qw k0 fun e=>hno _ (e▸k6),fun k k0 hk => .inl ⟨k,hk⟩,fun _ _=>rfl⟩,fun k hk => ?_,⟨by simp,fun j hj eZ => ?_⟩,wm,n10,rfl,rfl,rfl⟩
 ·simp only[aH,hop,k1,k2,if_neg hh,hnp,aD,if_false,ho]
 ·cases hl
  exact⟨[iT],rfl,fun j hj=>⟨kp,by simp,by simp only[bJ] at hj; rw[hj]; exact hw _ _ k6⟩⟩
 ·cases hm
  simp only[bJ] at hj
  exact .inr ⟨kp,hj▸k6⟩
 ·refine⟨bW K _ _ hR.env,fun k l hk => ?_,fun k e s hk t ht => ?_,fun k k0 hk => ?_,hR.inj,fun k b hk t ht=>by
   rw[aP] at hk
   split at hk
   ·split at hk<;>cases hk
    trivial
   ·rename_i e1
    rw[qw t (hkp k (fun e=>e1 e.symm) t ht)]; exact hR.mp k b hk t ht⟩
  ·rw[aP] at hk
   split at hk
   ·rename_i e1
    subst e1
    split at hk
    ·cases hk
     exact⟨iT,_,k6,by rw[aP,if_pos rfl,if_pos hid],r4⟩
    ·cases hk
   ·rename_i e1
    obtain⟨k0,NN,q1,q2,q3⟩:=hR.cells k l hk
    exact⟨k0,NN,q1,by rw[qw k0 (hkp k (Ne.symm e1) k0 q1)]; exact q2,bW K _ _ q3⟩
  ·rw[aP] at hk
   split at hk
   ·split at hk<;>cases hk
   ·obtain⟨n,q1⟩:=hR.own k e s hk t ht
    exact⟨n,(K k t (fun e=>e) ht).2.1 _ _ _ q1⟩
  ·rw[aP]
   split
   ·rename_i e1
    subst e1
    exact⟨_,if_pos (aJ.1 Ww).1,fun e=>by cases e⟩
   ·exact hR.xH k k0 hk
 ·rw[aP]
  split
  ·rename_i e1
   subst e1
   exact⟨_,if_pos (aJ.1 Ww).1⟩
  ·exact hB k hk
 ·rw[qw j]
  ·exact eZ
  ·intro e
   rw[e,m2] at eZ
   cases eZ
end Go.Tv
end
