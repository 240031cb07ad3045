import Derived.Test.YtedcgbkilmlbhaaGreatPk03
section
namespace Go.Tv
open Go Go.Di
def mY:List TB→List TB
 | []=>[]
 | b::l=>match mY l,b with
  | [],.none=>[]
  | l',b=>b::l'
theorem FJ:∀ tS:List TB,∃ n,tS=mY tS++List.replicate n .none
 | []=>⟨0,rfl⟩
 | b::l=>by
  obtain⟨n,h⟩:=FJ l
  simp only[mY]
  split
  ·rename_i e
   rw[e] at h
   exact⟨n+1,by rw[h]; rfl⟩
  ·exact⟨n,by rw[List.cons_append,← h]⟩
inductive wD:List TV→List TV→Prop
 | nil:wD [] []
 | unk {v:TV} {l m:List TV}:wD l m→wD (.unk::l) (v::m)
 | same {v:TV} {l m:List TV}:wD l m→wD (v::l) (v::m)
 | no {t:TT} {x:List t.den} {ap:Ap} {l m:List TV}:wD l m→wD (.sl t x .no::l) (.sl t x ap::m)
 | oE {t:TT} {g:Nat} {l m:List TV}:wD l m→wD (.sl t [] (.oE g)::l) (.sl t [] .full::m)
 | gq {t:TT} {ap:Ap} {l m:List TV}:wD l m→wD (.sl t [] ap::l) (.gq::m)
 | agg {a b l m:List TV}:wD a b→wD l m→wD (.agg a::l) (.agg b::m)
theorem wD.refl:∀ l:List TV,wD l l
 | [] => .nil
 | _::l => .same (wD.refl l)
mutual
def refs:TV→List Nat
 | .sl _ _ (.oE g)=>[g]
 | .ptr id _=>[id]
 | .mp id=>[id]
 | .so g _=>[g]
 | .sp g _ _ _=>[g]
 | .agg l=>ji l
 | .gd l=>ji l
 | .fn _ a b=>ji a++ji b
 | _=>[]
def ji:List TV→List Nat
 | []=>[]
 | a::l=>refs a++ji l
end
inductive C8:List TB→List TB→Prop
 | nil {l:List TB}:C8 [] l
 | none {b:TB} {l m:List TB}:C8 l m→C8 (.none::l) (b::m)
 | own {e s:Nat} {l m:List TB}:C8 l m→C8 (.own e s::l) (.own e s::m)
 | new {e s:Nat} {l:List TB}:C8 l []→C8 (.own e s::l) []
 | cells {a b:List TV} {l m:List TB}:wD a b→C8 l m→C8 (.cells a::l) (.cells b::m)
 | map {kt:TT} {c:List kt.den} {l m:List TB}:C8 l m→C8 (.map kt c::l) (.map kt c::m)
 | rows {t:TT} {e:Nat} {c:List t.den} {z:Bool} {l m:List TB}:C8 l m→C8 (.rows t e c z::l) (.rows t e c z::m)
def oa (tS:List TB) (k:Nat):Bool :=
 match tS[k]? with
 | some .none | none=>false
 | _=>true
def DT:List TB→List Nat
 | []=>[]
 | .cells a::l=>ji a++DT l
 | _::l=>DT l
def okB (te:List TV) (tS:List TB):Bool:=(ji te++DT tS).all (oa tS)
variable {P:Program} {ty:ir} {tt:TypeId→Option TT} {ι ι' w:mm} {S S':ax} {te mW:List TV} {env:List DV} {tS jR:List TB} {aM:bV} {call:bP} {yf:fI} {o:Oper} {aH nT:Nat} {B:List Nat} {r:TR} {ops:Array Oper}
theorem J5 {l m:List TV} (h:wD l m):∀ {ds:List DV},dw ι S m ds→dw ι S l ds:=by
 induction h with
 | nil=>exact id
 | unk _ ih=>intro ds hd; obtain⟨d,m',rfl,h1,h2⟩:=aj hd; exact aP (by simp only[RT]) (ih h2)
 | same _ ih=>intro ds hd; obtain⟨d,m',rfl,h1,h2⟩:=aj hd; exact aP h1 (ih h2)
 | no _ ih =>
  intro ds hd
  obtain⟨d,m',rfl,h1,h2⟩:=aj hd
  refine aP ?_ (ih h2)
  cases d<;>simp only[RT] at h1 ⊢
  exact⟨h1.1,trivial⟩
 | oE _ ih =>
  intro ds hd
  obtain⟨d,m',rfl,h1,h2⟩:=aj hd
  refine aP ?_ (ih h2)
  cases d<;>simp only[RT] at h1 ⊢
  exact⟨h1.1,.inl ⟨h1.2.1,h1.2.2,lz h1.1⟩⟩
 | gq _ ih =>
  rename_i ap _ _ _
  intro ds hd
  obtain⟨d,m',rfl,h1,h2⟩:=aj hd
  refine aP ?_ (ih h2)
  cases d<;>simp only[RT] at h1 ⊢
  obtain⟨rfl,rfl,rfl⟩:=h1
  refine⟨trivial,?_⟩
  cases ap with
  | no=>trivial
  | full=>exact⟨rfl,rfl⟩
  | oE g=>exact .inl ⟨rfl,rfl,rfl⟩
 | agg _ _ Na O7 =>
  intro ds hd
  obtain⟨d,m',rfl,h1,h2⟩:=aj hd
  refine aP ?_ (O7 h2)
  cases d<;>simp only[RT] at h1 ⊢
  exact Na h1
mutual
theorem Wm:∀ (v:TV) (d:DV),(∀ k∈refs v,ι' k=ι k)→RT ι S v d→RT ι' S v d
 | .unk,_,_,_=>by simp only[RT]
 | .val _,d,_,k=>by cases d<;>simp only[RT] at k ⊢; exact k
 | .gq,d,_,k=>by cases d<;>simp only[RT] at k ⊢; exact k
 | .agg l,d,h,k=>by cases d<;>simp only[RT] at k ⊢; exact ov l _ h k
 | .gd l,d,h,k=>by cases d<;>simp only[RT] at k ⊢; exact ov l _ h k
 | .sl t l .no,d,_,k=>by cases d<;>simp only[RT] at k ⊢; exact k
 | .sl t l .full,d,_,k=>by cases d<;>simp only[RT] at k ⊢; exact k
 | .sl t l (.oE g),d,h,k=>by
  cases d<;>simp only[RT,uL] at k ⊢
  rw[h g (by simp[refs])]
  exact k
 | .ptr id off,d,h,k=>by
  cases d<;>simp only[RT] at k ⊢
  rw[h id (by simp[refs])]
  exact k
 | .eL t l i off,d,_,k=>by cases d<;>simp only[RT] at k ⊢; exact k
 | .mp id,d,h,k=>by
  cases d<;>simp only[RT] at k ⊢
  rw[h id (by simp[refs])]
  exact k
 | .so g t,d,h,k=>by
  cases d<;>simp only[RT] at k ⊢
  rw[h g (by simp[refs])]
  exact k
 | .sp g t i off,d,h,k=>by
  cases d<;>simp only[RT] at k ⊢
  rw[h g (by simp[refs])]
  exact k
 | .fn f a b,d,h,k=>by
  cases d<;>simp only[RT] at k ⊢
  exact⟨k.1,ov a _ (fun j hj=>h j (by simp[refs,hj])) k.2.1,ov b _ (fun j hj=>h j (by simp[refs,hj])) k.2.2⟩
theorem ov:∀ (l:List TV) (m:List DV),(∀ k∈ji l,ι' k=ι k)→dw ι S l m→dw ι' S l m
 | [],m,_,k=>by rw[aU k]; exact cF
 | a::l,m,h,k=>by
  obtain⟨d,m',rfl,h1,h2⟩:=aj k
  exact aP (Wm a d (fun j hj=>h j (by simp[ji,hj])) h1) (ov l m' (fun j hj=>h j (by simp[ji,hj])) h2)
end
theorem AQ {l m:List TB} (h:C8 l m):∀ {k:Nat} {b:TB},l[k]? = some b→b = .none∨(∃ e s,b = .own e s∧(m[k]? = some (.own e s)∨m[k]? = none))∨(∃ a c,b = .cells a∧m[k]? = some (.cells c)∧wD a c)∨(m[k]? = some b∧(∀ l,b ≠ .cells l)∧∀ e s,b ≠ .own e s):=by
 induction h with
 | nil=>intro k b hb; simp at hb
 | none _ ih =>
  intro k b hb
  cases k with
  | zero=>simp only[List.getElem?_cons_zero,aB] at hb; exact .inl hb.symm
  | succ k=>simpa using ih (k:=k) (by simpa using hb)
 | own _ ih =>
  intro k b hb
  cases k with
  | zero=>simp only[List.getElem?_cons_zero,aB] at hb; subst hb; exact .inr (.inl ⟨_,_,rfl,.inl rfl⟩)
  | succ k=>simpa using ih (k:=k) (by simpa using hb)
 | new _ ih =>
  intro k b hb
  cases k with
  | zero=>simp only[List.getElem?_cons_zero,aB] at hb; subst hb; exact .inr (.inl ⟨_,_,rfl,.inr rfl⟩)
  | succ k=>simpa using ih (k:=k) (by simpa using hb)
 | cells hl _ ih =>
  intro k b hb
  cases k with
  | zero=>simp only[List.getElem?_cons_zero,aB] at hb; subst hb; exact .inr (.inr (.inl ⟨_,_,rfl,rfl,hl⟩))
  | succ k=>simpa using ih (k:=k) (by simpa using hb)
 | map _ ih =>
  intro k b hb
  cases k with
  | zero=>simp only[List.getElem?_cons_zero,aB] at hb; subst hb; exact .inr (.inr (.inr ⟨rfl,by simp,by simp⟩))
  | succ k=>simpa using ih (k:=k) (by simpa using hb)
 | rows _ ih =>
  intro k b hb
  cases k with
  | zero=>simp only[List.getElem?_cons_zero,aB] at hb; subst hb; exact .inr (.inr (.inr ⟨rfl,by simp,by simp⟩))
  | succ k=>simpa using ih (k:=k) (by simpa using hb)
theorem Eu {k:Nat} {a:List TV}:∀ {tS:List TB} {j:Nat},tS[j]? = some (.cells a)→k∈ji a→k∈DT tS
 | [],_,h,_=>by simp at h
 | b::l,0,h,hk=>by
  simp only[List.getElem?_cons_zero,aB] at h
  subst h
  simp[DT,hk]
 | b::l,j+1,h,hk=>by
  have:=Eu (tS:=l) (j:=j) (by simpa using h) hk
  cases b<;>simp[DT,this]
theorem sQ (h:cK ι te tS env S) (hl:wD mW te) (hb:C8 jR tS) (jF:okB mW jR=true) (hB:pg B jR):∃ ι1,cK ι1 mW jR env S∧Fr B ι S ι1 S∧(∀ k,ι1 k=if oa jR k then ι k else none):=by
 simp only[okB,mA,aI,bt] at jF
 refine⟨fun k=>if oa jR k then ι k else none,⟨?_,fun k l hk => ?_,fun k e s hk t ht => ?_,fun k k' hk => ?_,fun i j k' hi hj => ?_,fun k b hk t ht => ?_⟩,⟨fun _ _ _=>rfl,fun k k' hk => ?_,fun k hk => ?_⟩,fun _=>rfl⟩
 ·refine ov _ _ (fun k hk => ?_) (J5 hl h.env)
  rw[if_pos (jF.1 k hk)]
 ·rcases AQ hb hk with e | ⟨_,_,e,-⟩ | ⟨a,c,e,h1,h2⟩ | ⟨_,e,-⟩
  ·cases e
  ·cases e
  rotate_left
  ·exact absurd rfl (e _)
  ·cases e
   obtain⟨k',ds,n1,n2,n3⟩:=h.cells k c h1
   refine⟨k',ds,?_,n2,ov _ _ (fun j hj => ?_) (J5 h2 n3)⟩
   ·have:oa jR k=true:=by simp only[oa,hk]
    rw[if_pos this]; exact n1
   ·rw[if_pos (jF.2 j (Eu hk hj))]
 ·split at ht
  ·rcases AQ hb hk with e' | ⟨_,_,e',h1⟩ | ⟨a,c,e',h1,h2⟩ | ⟨_,-,e'⟩
   rotate_left 3
   ·exact absurd rfl (e' _ _)
   ·cases e'
   ·cases e'
    rcases h1 with h1 | h1
    ·exact h.own k e s h1 t ht
    ·obtain⟨b,h2,-⟩:=h.xY k t ht
     rw[h1] at h2; cases h2
   ·cases e'
  ·cases ht
 ·split at hk
  ·rename_i iV
   unfold oa at iV
   split at iV
   ·cases iV
   ·cases iV
   ·rename_i b Lp DI
    cases hx:jR[k]? with
    | none=>exact(DI hx).elim
    | some b=>exact⟨b,rfl,fun e=>Lp (by rw[hx,e])⟩
  ·cases hk
 ·split at hi
  ·split at hj
   ·exact h.inj i j k' hi hj
   ·cases hj
  ·cases hi
 ·split at ht
  ·rcases AQ hb hk with e' | ⟨_,_,e',-⟩ | ⟨_,_,e',-⟩ | ⟨h1,-⟩
   ·subst e'; trivial
   ·subst e'; trivial
   ·subst e'; trivial
   ·exact h.mp k _ h1 t ht
  ·cases ht
 ·split at hk
  ·exact .inl ⟨k,hk⟩
  ·cases hk
 ·obtain⟨l,h1⟩:=hB k hk
  have:oa jR k=true:=by simp only[oa,h1]
  simp only[this,if_true]
theorem sY (hb:C8 jR tS) (hB:pg B tS) (h:∀ k,k∈B→oa jR k=true):pg B jR:=by
 intro k hk
 have h1:=h k hk
 obtain⟨l,h2⟩:=hB k hk
 unfold oa at h1
 split at h1
 ·cases h1
 ·cases h1
 ·rename_i b Lp DI
  cases hx:jR[k]? with
  | none=>exact(DI hx).elim
  | some b =>
   rcases AQ hb hx with e | ⟨_,_,e,h3⟩ | ⟨a,c,e,-,-⟩ | ⟨h3,e,-⟩
   ·exact(Lp (by rw[hx,e])).elim
   ·rw[h2] at h3; rcases h3 with h3 | h3<;>cases h3
   ·exact⟨a,by rw[e]⟩
   ·rw[h2] at h3; cases h3; exact absurd rfl (e _)
theorem H9 (h:cK ι te tS env S):cK ι te (mY tS) env S:=by
 obtain⟨n,hn⟩:=FJ tS
 have hT:∀ (k:Nat) (b:TB),b ≠ .none→(tS[k]? = some b↔(mY tS)[k]? = some b):=by
  intro k b hb
  conv=>lhs; rw[hn]
  rw[qP]
  split
  ·rfl
  ·rename_i hlt
   rw[fN (l:=mY tS) (by omega),nK]
   split
   ·exact⟨fun e=>by cases e; exact(hb rfl).elim,fun e=>by cases e⟩
   ·exact Iff.rfl
 refine⟨h.env,fun k l hk=>h.cells k l ((hT _ _ (fun e=>by cases e)).2 hk),fun k e s hk=>h.own k e s ((hT _ _ (fun e=>by cases e)).2 hk),fun k k' hk => ?_,h.inj,fun k b hk t ht=>by
  cases b with
  | none=>trivial
  | _=>exact h.mp k _ ((hT _ _ (fun e=>by cases e)).2 hk) t ht⟩
 obtain⟨b,h1,h2⟩:=h.xY k k' hk
 exact⟨b,(hT _ _ h2).1 h1,h2⟩
theorem IE (hB:pg B tS):pg B (mY tS):=by
 intro k hk
 obtain⟨l,h1⟩:=hB k hk
 obtain⟨n,hn⟩:=FJ tS
 refine⟨l,?_⟩
 rw[hn,qP] at h1
 split at h1
 ·exact h1
 ·rw[nK] at h1
  split at h1<;>cases h1
section
variable (P:Program) (ty:ir) (aM:bV) (call:bP) (yf:fI) (B:List Nat) (L:Nat) (fn:FuncId) (iJ:Bool)
def WT (c:Code) (te:List TV) (tS:List TB) (Q:DX→List TV→List TB→Prop):Prop :=
 ∀ ι env S,cK ι te tS env S→pg B tS→∃ e aD S' ι' cT cU,ct P ty aM call yf L fn iJ c env S=some (e,aD,S')∧cK ι' cT cU aD S'∧pg B cU∧Fr B ι S ι' S'∧Nn S.length S S'∧Q e cT cU
end
section
variable {L:Nat} {fn:FuncId} {iJ:Bool} {a b c:Code} {Q Q':DX→List TV→List TB→Prop}
theorem WT.mono (h:WT P ty aM call yf B L fn iJ c te tS Q) (hq:∀ e te tS,Q e te tS→Q' e te tS):WT P ty aM call yf B L fn iJ c te tS Q':=by
 intro ι env S hR hB
 obtain⟨e,aD,S',ι',cT,cU,h1,h2,h3,h4,h5,h6⟩:=h ι env S hR hB
 exact⟨e,aD,S',ι',cT,cU,h1,h2,h3,h4,h5,hq _ _ _ h6⟩
theorem VM (h:Q .normal te tS):WT P ty aM call yf B L fn iJ .skip te tS Q:=fun ι env S hR hB=>⟨.normal,env,S,ι,te,tS,rfl,hR,hB,Fr.refl _ _ _,gu _ _,h⟩
theorem RZ {l:Nat} (h:Q .normal te tS):WT P ty aM call yf B L fn iJ (.label l) te tS Q:=fun ι env S hR hB=>⟨.normal,env,S,ι,te,tS,rfl,hR,hB,Fr.refl _ _ _,gu _ _,h⟩
theorem VQ {id:Nat} (h:Q (.exit id) te tS):WT P ty aM call yf B L fn iJ (.exit id) te tS Q:=fun ι env S hR hB=>⟨.exit id,env,S,ι,te,tS,rfl,hR,hB,Fr.refl _ _ _,gu _ _,h⟩
theorem aav (h:Q .ret te tS):WT P ty aM call yf B L fn iJ .ret te tS Q:=fun ι env S hR hB=>⟨.ret,env,S,ι,te,tS,rfl,hR,hB,Fr.refl _ _ _,gu _ _,h⟩
theorem RS (h:WT P ty aM call yf B L fn iJ c te tS Q):WT P ty aM call yf B L fn iJ (.scope c) te tS Q:=fun ι env S hR hB=>by
 obtain⟨e,aD,S',ι',cT,cU,h1,h2⟩:=h ι env S hR hB
 exact⟨e,aD,S',ι',cT,cU,by simp only[ct,h1],h2⟩
theorem QX (h:WT P ty aM call yf B L fn iJ a te tS fun e te tS=>match e with | .normal=>WT P ty aM call yf B L fn iJ b te tS Q | e=>Q e te tS):WT P ty aM call yf B L fn iJ (.seq a b) te tS Q:=by
 intro ι env S hR hB
 obtain⟨e,aD,S',ι',cT,cU,h1,h2,h3,h4,h5,h6⟩:=h ι env S hR hB
 cases e with
 | normal =>
  obtain⟨e,pW,vk,ι'',vq,vr,k1,k2,k3,k4,k5,k6⟩:=h6 ι' aD S' h2 h3
  exact⟨e,pW,vk,ι'',vq,vr,by simp only[ct,h1,k1],k2,k3,h4.trans k4,sS h5 k5,k6⟩
 | exit id=>exact⟨_,aD,S',ι',cT,cU,by simp only[ct,h1],h2,h3,h4,h5,h6⟩
 | ret=>exact⟨_,aD,S',ι',cT,cU,by simp only[ct,h1],h2,h3,h4,h5,h6⟩
theorem VR {x:Operand} {t:Bool} (hx:iK te x=some (.val (.bool t))) (h1:t=true→WT P ty aM call yf B L fn iJ a te tS Q) (h2:t=false→WT P ty aM call yf B L fn iJ b te tS Q):WT P ty aM call yf B L fn iJ (.cond x a b) te tS Q:=by
 intro ι env S hR hB
 obtain⟨d,k1,k2⟩:=bC hR.env hx
 cases d<;>simp only[RT] at k2
 subst k2
 cases t with
 | true =>
  obtain⟨e,aD,S',ι',cT,cU,m1,m2⟩:=h1 rfl ι env S hR hB
  exact⟨e,aD,S',ι',cT,cU,by simp only[ct,k1,m1],m2⟩
 | false =>
  obtain⟨e,aD,S',ι',cT,cU,m1,m2⟩:=h2 rfl ι env S hR hB
  exact⟨e,aD,S',ι',cT,cU,by simp only[ct,k1,m1],m2⟩
theorem R4 {id:Nat} (h:WT P ty aM call yf B L fn iJ c te tS fun e te tS=>match e with | .exit jE=>Q (if jE=id then .normal else .exit jE) te tS | e=>Q e te tS):WT P ty aM call yf B L fn iJ (.block id c) te tS Q:=by
 intro ι env S hR hB
 obtain⟨e,aD,S',ι',cT,cU,h1,h2,h3,h4,h5,h6⟩:=h ι env S hR hB
 cases e with
 | normal=>exact⟨_,aD,S',ι',cT,cU,by simp only[ct,h1],h2,h3,h4,h5,h6⟩
 | exit jE=>exact⟨_,aD,S',ι',cT,cU,by simp only[ct,h1],h2,h3,h4,h5,h6⟩
 | ret=>exact⟨_,aD,S',ι',cT,cU,by simp only[ct,h1],h2,h3,h4,h5,h6⟩
theorem VO (hl:wD mW te) (hb:C8 jR tS) (jF:okB mW jR=true) (hB:∀ k,k∈B→oa jR k=true) (h:WT P ty aM call yf B L fn iJ c mW jR Q):WT P ty aM call yf B L fn iJ c te tS Q:=by
 intro ι env S hR XV
 have Nj:=sY hb XV hB
 obtain⟨ι1,h1,h2,-⟩:=sQ hR hl hb jF Nj
 obtain⟨e,aD,S',ι',cT,cU,m1,m2,m3,m4,m5⟩:=h ι1 env S h1 Nj
 exact⟨e,aD,S',ι',cT,cU,m1,m2,m3,h2.trans m4,m5⟩
structure Fits (B:List Nat) (mW:List TV) (jR:List TB) (te:List TV) (tS:List TB):Prop where
 l:wD mW te
 b:C8 jR tS
 ok:okB mW jR=true
 base:∀ k,k∈B→oa jR k=true
theorem RY {id:Nat} (h:WL P ty aM call yf B ops 0 te tS fun te tS=>Q .normal te (mY tS)):WT P ty aM call yf B L fn iJ (.region id ops false) te tS Q:=by
 intro ι env S hR hB
 obtain⟨aD,S',ι',cT,cU,h1,h2,h3,h4,h5,h6⟩:=h ι env S hR hB
 refine⟨.normal,aD,S',ι',cT,mY cU,?_,H9 h2,IE h3,h4,h5,h6⟩
 rw[mz] at h1
 simp only[ct,oQ,aF,if_false,h1,Option.map_some]
theorem RU {id:Nat} (hd:kV ops (Region.before ops)=true) (hl:uR P ops=false) (h:WQ P ty aM call yf ops tS 0 te fun te=>Q .normal te tS):WT P ty aM call yf B L fn iJ (.region id ops true) te tS Q:=by
 intro ι env S hR hB
 obtain⟨aD,cT,h1,h2,h3⟩:=h ι env S hR
 refine⟨.normal,aD,S,ι,cT,tS,?_,h2,hB,Fr.refl _ _ _,gu _ _,h3⟩
 rw[mz] at h1
 simp only[uR,Bool.or_eq_false_iff] at hl
 simp only[ct,oQ,if_true,hd,hl.2,gl,aF,if_false,h1,Option.map_some]
theorem R2 {id:Nat} (hd:kV ops (Region.before ops)=true) (hn:uR P ops=true) (h:WD P ty aM call yf B ops 0 te (tS++List.replicate ops.size .none) [] fun te tS=>Q .normal te (mY tS)):WT P ty aM call yf B L fn iJ (.region id ops true) te tS Q:=by
 intro ι env S hR hB
 have mP:=Wt hR ops.size ops.size
 obtain⟨w,hw⟩:=JP mP
 have hB':pg B (tS++List.replicate ops.size .none):=fun k hk=>by
  obtain⟨l,h1⟩:=hB k hk
  exact⟨l,by rw[fq (aJ.1 h1).1]; exact h1⟩
 obtain⟨aD,S',A6,ι',w',cT,cU,ft,h1,h2,-,h4,h5,h6,h7,h8,h9⟩:=h ι w env (S++List.replicate ops.size .none) S.length mP hB' hw (fun j _ hj=>by
  rw[gF (by omega),nK,if_pos (by omega)])
 refine⟨.normal,aD,S',ι',cT,mY cU,?_,H9 h5,IE h6,⟨fun k' hl hno => ?_,fun k k' hk => ?_,h7.base⟩,⟨?_,fun j hj fV => ?_⟩,h9⟩
 ·rw[mz] at h1
  simp only[ct,oQ,if_true,hd,gl,aF,if_false,OG hn,h1,abd h2 (by simpa using h4),Option.map_some]
 ·have e:=ext_get (n:=ops.size) hl
  rw[h7.rest k' (by obtain⟨b,e1,e2⟩:=hl; exact⟨b,e.trans e1,e2⟩) hno]
  exact e
 ·refine(h7.ours k k' hk).imp (fun e=>e) fun Pd hl=>Pd ?_
  obtain⟨b,e1,e2⟩:=hl
  exact⟨b,(ext_get ⟨b,e1,e2⟩).trans e1,e2⟩
 ·have:=h8.1
  rw[b9] at this
  omega
 ·have hlt:=(aJ.1 fV).1
  exact h8.2 j (fun i _ _=>by omega) (by rw[fq hlt]; exact fV)
end
end Go.Tv
end
section
namespace Go.Tv
open Go Go.Di
def Fs:TV→Bool
 | .val v => !(v matches .tuple _)
 | .gq | .sl _ _ _=>true
 | _=>false
def gQ:TV→Bool
 | .agg l=>l.all Fs
 | .val _ | .gq | .sl _ _ _=>true
 | _=>false
def pU:TV→TV
 | .sl k l _ => .sl k l .no
 | .gq => .unk
 | v=>v
def kR:Option TT→TV→TV
 | some (.sl e),.gq => .sl e [] .no
 | _,.gq => .unk
 | _,.sl k l _ => .sl k l .no
 | some t,.agg l=>match t.of l with
  | some (x,[]) => .agg (t.cells x)
  | _ => .agg (l.map pU)
 | none,.agg l => .agg (l.map pU)
 | _,v=>v
def bT:List (Option TT)→List TV→List TV
 | _,[]=>[]
 | [],v::l=>kR none v::bT [] l
 | t::ts,v::l=>kR t v::bT ts l
def jq (tt:TypeId→Option TT) (fs:List TV) (argTypes:Array TypeId):List (Option TT):=fs.map (fun _=>none)++argTypes.toList.map tt
variable {P:Program} {ty:ir} {tt:TypeId→Option TT} {ι ι' w:mm} {S S':ax} {te mW:List TV} {env:List DV} {tS jR:List TB} {aM:bV} {call:bP} {yf:fI} {o:Oper} {aH nT:Nat} {B:List Nat} {r:TR} {ops:Array Oper}
mutual
theorem tY:∀ (v:TV) (d:DV),refs v=[]→RT ι S v d→RT ι' S' v d
 | .unk,_,_,_=>by simp only[RT]
 | .val _,d,_,k=>by cases d<;>simp only[RT] at k ⊢; exact k
 | .gq,d,_,k=>by cases d<;>simp only[RT] at k ⊢; exact k
 | .agg l,d,h,k=>by cases d<;>simp only[RT] at k ⊢; exact jy l _ h k
 | .gd l,d,h,k=>by cases d<;>simp only[RT] at k ⊢; exact jy l _ h k
 | .sl t l .no,d,_,k=>by cases d<;>simp only[RT] at k ⊢; exact k
 | .sl t l .full,d,_,k=>by cases d<;>simp only[RT] at k ⊢; exact k
 | .sl t l (.oE g),d,h,k=>by simp[refs] at h
 | .ptr id off,d,h,k=>by simp[refs] at h
 | .eL t l i off,d,_,k=>by cases d<;>simp only[RT] at k ⊢; exact k
 | .mp id,d,h,k=>by simp[refs] at h
 | .so g t,d,h,k=>by simp[refs] at h
 | .sp g t i off,d,h,k=>by simp[refs] at h
 | .fn f a b,d,h,k=>by
  cases d<;>simp only[RT] at k ⊢
  simp only[refs,List.append_eq_nil_iff] at h
  exact⟨k.1,jy a _ h.1 k.2.1,jy b _ h.2 k.2.2⟩
theorem jy:∀ (l:List TV) (m:List DV),ji l=[]→dw ι S l m→dw ι' S' l m
 | [],m,_,k=>by rw[aU k]; exact cF
 | a::l,m,h,k=>by
  obtain⟨d,m',rfl,h1,h2⟩:=aj k
  simp only[ji,List.append_eq_nil_iff] at h
  exact aP (tY a d h.1 h1) (jy l m' h.2 h2)
end
theorem IQ {v:TV} {d:DV} (hp:Fs v=true) (h:RT ι S v d):d.aV.ck=true∧RT ι' S' (pU v) d.aV:=by
 cases v<;>first | (cases hp; done) | skip
 ·cases d<;>simp only[RT] at h
  subst h
  exact⟨hp,by simp only[pU,RT,DV.aV]⟩
 ·cases d<;>simp only[RT] at h
  exact⟨rfl,by simp only[pU,RT]⟩
 ·cases d<;>simp only[RT] at h
  exact⟨rfl,by simp only[pU,RT,DV.aV]; exact⟨h.1,trivial⟩⟩
theorem zI:∀ {l:List TV} {m:List DV},l.all Fs=true→dw ι S l m→(m.map DV.aV).all DV.ck=true∧dw ι' S' (l.map pU) (m.map DV.aV)
 | [],m,_,h=>by rw[aU h]; exact⟨rfl,cF⟩
 | a::l,m,hp,h=>by
  obtain⟨d,m',rfl,h1,h2⟩:=aj h
  simp only[List.all_cons,aI] at hp
  obtain⟨k1,k2⟩:=IQ (ι':=ι') (S':=S') hp.1 h1
  obtain⟨k3,k4⟩:=zI hp.2 h2
  exact⟨by simp[k1] at k3 ⊢; exact k3,aP k2 k4⟩
theorem B5:∀ {t:TT} {l:List TV} {x:t.den} {r:List TV} {m:List DV},t.of l=some (x,r)→dw ι S l m→∃ c m',m=c++m'∧dw ι' S' (t.cells x) c∧dw ι S r m'
 | .int k,l,x,r,m,h,hm=>by
  simp only[TT.of] at h
  unfold ofInt at h
  split at h
  ·split at h
   ·rename_i hk
    cases h
    obtain⟨d,m',rfl,h1,h2⟩:=aj hm
    cases d<;>simp only[RT] at h1
    subst h1
    subst hk
    exact⟨[_],m',rfl,gf (by simp only[RT]),h2⟩
   ·cases h
  ·cases h
 | .bool,l,x,r,m,h,hm=>by
  simp only[TT.of] at h
  unfold ofBool at h
  split at h
  ·cases h
   obtain⟨d,m',rfl,h1,h2⟩:=aj hm
   cases d<;>simp only[RT] at h1
   subst h1
   exact⟨[_],m',rfl,gf (by simp only[RT]),h2⟩
  ·cases h
 | .str,l,x,r,m,h,hm=>by
  simp only[TT.of] at h
  unfold ofStr at h
  split at h
  ·cases h
   obtain⟨d,m',rfl,h1,h2⟩:=aj hm
   cases d<;>simp only[RT] at h1
   subst h1
   exact⟨[_],m',rfl,gf (by simp only[RT]),h2⟩
  ·cases h
 | .unit,l,x,r,m,h,hm=>by
  simp only[TT.of] at h
  cases h
  exact⟨[],m,rfl,cF,hm⟩
 | .pair a b,l,x,r,m,h,hm=>by
  simp only[TT.of] at h
  split at h
  ·rename_i x1 r1 h1
   split at h
   ·rename_i y r2 h2
    cases h
    obtain⟨c,m1,rfl,k1,k2⟩:=B5 h1 hm
    obtain⟨c',m2,rfl,k3,k4⟩:=B5 h2 k2
    exact⟨c++c',m2,by simp,fB k1 k3,k4⟩
   ·cases h
  ·cases h
 | .sl t,l,x,r,m,h,hm=>by
  simp only[TT.of] at h
  unfold Vk at h
  split at h
  ·split at h
   ·rename_i ht
    subst ht
    cases h
    obtain⟨d,m',rfl,h1,h2⟩:=aj hm
    cases d<;>simp only[RT] at h1
    exact⟨[_],m',rfl,gf (by simp only[RT]; exact⟨h1.1,trivial⟩),h2⟩
   ·cases h
  ·cases h
   obtain⟨d,m',rfl,h1,h2⟩:=aj hm
   cases d<;>simp only[RT] at h1
   obtain⟨rfl,rfl,rfl⟩:=h1
   exact⟨[_],m',rfl,gf (by simp only[RT,eN]; exact⟨trivial,trivial⟩),h2⟩
  ·cases h
theorem mg {t:Option TT} {v:TV} {d:DV} (hp:gQ v=true) (h:RT ι S v d):d.strip.pure=true∧(∀ l,d ≠ .gd l)∧RT ι' S' (kR t v) d.strip:=by
 cases v with
 | agg l =>
  cases d<;>simp only[RT] at h
  rename_i m
  obtain⟨k1,k2⟩:=zI (ι':=ι') (S':=S') hp h
  refine⟨k1,fun _ e=>(by cases e),?_⟩
  cases t with
  | none=>simp only[kR,RT,DV.strip,DV.dG]; exact k2
  | some t =>
   have e:kR (some t) (.agg l)=match t.of l with | some (x,[]) => .agg (t.cells x) | _ => .agg (l.map pU):=by cases t<;>rfl
   rw[e]
   split
   ·rename_i x ho
    obtain⟨c,m',rfl,n1,n2⟩:=DU ho h
    rw[aU n2,ff]
    simp only[RT,DV.strip,DV.dG]
    exact oz n1
   ·simp only[RT,DV.strip,DV.dG]; exact k2
 | val u =>
  cases d<;>simp only[RT] at h
  rename_i u'
  subst h
  refine⟨rfl,fun _ e=>(by cases e),?_⟩
  have e:kR t (.val u') = .val u':=by cases t with | none=>rfl | some t=>cases t<;>rfl
  rw[e]
  simp only[RT,DV.strip,DV.dG]
 | gq =>
  cases d<;>simp only[RT] at h
  obtain⟨rfl,rfl,rfl⟩:=h
  refine⟨rfl,fun _ e=>(by cases e),?_⟩
  cases t with
  | none=>simp only[kR,RT]
  | some t =>
   cases t with
   | sl e=>simp only[kR,RT,DV.strip,DV.dG,eN]; exact⟨trivial,trivial⟩
   | _=>simp only[kR,RT]
 | sl k l ap =>
  cases d<;>simp only[RT] at h
  refine⟨rfl,fun _ e=>(by cases e),?_⟩
  have e:kR t (.sl k l ap) = .sl k l .no:=by cases t with | none=>rfl | some t=>cases t<;>rfl
  rw[e]
  simp only[RT,DV.strip,DV.dG]
  exact⟨h.1,trivial⟩
 | _=>cases hp
theorem vT {t:Option TT} {v:TV} {d:DV} (hp:gQ v=true) (h:RT ι S v d):RT ι' S' (kR t v) d:=by
 have n1:∀ {l:List TV} {m:List DV},l.all Fs=true→dw ι S l m→dw ι' S' (l.map pU) m:=by
  intro l
  induction l with
  | nil=>intro m _ h; rw[aU h]; exact cF
  | cons a l ih =>
   intro m hp h
   obtain⟨d,m',rfl,h1,h2⟩:=aj h
   simp only[List.all_cons,aI] at hp
   refine aP ?_ (ih hp.2 h2)
   cases a<;>first | (cases hp.1; done) | skip
   ·cases d<;>simp only[RT] at h1
    simp only[pU,RT]; exact h1
   ·simp only[pU,RT]
   ·cases d<;>simp only[RT] at h1
    simp only[pU,RT]; exact⟨h1.1,trivial⟩
 cases v with
 | agg l =>
  cases d<;>simp only[RT] at h
  rename_i m
  cases t with
  | none=>simp only[kR,RT]; exact n1 hp h
  | some t =>
   have e:kR (some t) (.agg l)=match t.of l with | some (x,[]) => .agg (t.cells x) | _ => .agg (l.map pU):=by cases t<;>rfl
   rw[e]
   split
   ·rename_i x ho
    obtain⟨c,m',rfl,k1,k2⟩:=B5 (ι':=ι') (S':=S') ho h
    rw[aU k2,ff]
    simp only[RT]
    exact k1
   ·simp only[RT]; exact n1 hp h
 | val u =>
  cases d<;>simp only[RT] at h
  have e:kR t (.val u) = .val u:=by cases t with | none=>rfl | some t=>cases t<;>rfl
  rw[e]
  simp only[RT]
  exact h
 | gq =>
  cases d<;>simp only[RT] at h
  obtain⟨rfl,rfl,rfl⟩:=h
  cases t with
  | none=>simp only[kR,RT]
  | some t =>
   cases t with
   | sl e=>simp only[kR,RT,eN]; exact⟨trivial,trivial⟩
   | _=>simp only[kR,RT]
 | sl k l ap =>
  cases d<;>simp only[RT] at h
  have e:kR t (.sl k l ap) = .sl k l .no:=by cases t with | none=>rfl | some t=>cases t<;>rfl
  rw[e]
  simp only[RT]
  exact⟨h.1,trivial⟩
 | _=>cases hp
theorem kL:∀ {ts:List (Option TT)} {l:List TV} {m:List DV},l.all gQ=true→dw ι S l m→(m.map DV.strip).all DV.pure=true∧dw ι' S' (bT ts l) (m.map DV.strip)
 | _,[],m,_,h=>by rw[aU h]; exact⟨rfl,by simp only[bT,fK]; exact cF⟩
 | [],a::l,m,hp,h=>by
  obtain⟨d,m',rfl,h1,h2⟩:=aj h
  simp only[List.all_cons,aI] at hp
  obtain⟨k1,-,k2⟩:=mg (t:=none) (ι':=ι') (S':=S') hp.1 h1
  obtain⟨k3,k4⟩:=kL (ts:=[]) hp.2 h2
  refine⟨?_,by simp only[bT,bQ]; exact aP k2 k4⟩
  rw[bQ,List.all_cons,k1,k3]; rfl
 | t::ts,a::l,m,hp,h=>by
  obtain⟨d,m',rfl,h1,h2⟩:=aj h
  simp only[List.all_cons,aI] at hp
  obtain⟨k1,-,k2⟩:=mg (t:=t) (ι':=ι') (S':=S') hp.1 h1
  obtain⟨k3,k4⟩:=kL (ts:=ts) hp.2 h2
  refine⟨?_,by simp only[bT,bQ]; exact aP k2 k4⟩
  rw[bQ,List.all_cons,k1,k3]; rfl
theorem kM:∀ {ts:List (Option TT)} {l:List TV} {m:List DV},l.all gQ=true→dw ι S l m→dw ι' S' (bT ts l) m
 | _,[],m,_,h=>by rw[aU h]; simp only[bT]; exact cF
 | [],a::l,m,hp,h=>by
  obtain⟨d,m',rfl,h1,h2⟩:=aj h
  simp only[List.all_cons,aI] at hp
  simp only[bT]
  exact aP (vT hp.1 h1) (kM hp.2 h2)
 | t::ts,a::l,m,hp,h=>by
  obtain⟨d,m',rfl,h1,h2⟩:=aj h
  simp only[List.all_cons,aI] at hp
  simp only[bT]
  exact aP (vT hp.1 h1) (kM hp.2 h2)
def dK:mm:=fun _=>none
def sE (aM:bV) (g:FuncId) (targs:List TV) (Q:TV→Prop):Prop :=
 ∀ cZ,dw dK [] targs cZ→∃ d v,aM g cZ=some d∧d.pure=true∧RT dK [] v d∧refs v=[]∧Q v
theorem sE.mono {g:FuncId} {targs:List TV} {Q Q':TV→Prop} (h:sE aM g targs Q) (hq:∀ v,Q v→Q' v):sE aM g targs Q':=fun cZ hd=>by
 obtain⟨d,v,h1,h2,h3,h4,h5⟩:=h cZ hd
 exact⟨d,v,h1,h2,h3,h4,hq v h5⟩
theorem mh (hE:dw ι S te env) {f:Operand} {args:Array Operand} {g:FuncId} {fs cs xs:List TV} (hf:iK te f=some (.fn g fs cs)) (ha:oH te args.toList=some xs) :
  ∃ A6 jH M7,jb env f=some (.fn g A6 jH)∧evs (jb env) args.toList=some M7∧dw ι S (fs++xs++cs) (A6++M7++jH):=by
 obtain⟨d,k1,k2⟩:=bC hE hf
 obtain⟨M7,k3,k4⟩:=tN hE ha
 cases d<;>simp only[RT] at k2
 obtain⟨rfl,k5,k6⟩:=k2
 exact⟨_,_,M7,k1,k3,fB (fB k5 k4) k6⟩
theorem CQ {f:Operand} {args:Array Operand} {argTypes:Array TypeId} {g:FuncId} {fs cs xs targs:List TV} {Q:TV→Prop} (hop:o.op = .call { callee := .value f,args,argTypes }) (hh:ty.h o≠1) (hf:iK te f=some (.fn g fs cs)) (ha:oH te args.toList=some xs) (hp:(fs++xs++cs).all gQ=true)
  (hn:bT (jq tt fs argTypes) (fs++xs++cs)=targs) (hs:sE aM g targs Q) (dr:Bool):Does P ty aM call yf B o nT te tS dr fun v cT cU ft=>Q v∧cT=te∧cU=tS∧ft=⟨some [],false⟩:=by
 intro ι w env S aH hR hB hw hT Ur hS
 obtain⟨A6,jH,M7,k1,k2,k3⟩:=mh hR.env hf ha
 obtain⟨k4,k5⟩:=kL (ts:=jq tt fs argTypes) (ι':=dK) (S':=[]) hp k3
 rw[hn] at k5
 obtain⟨d,v,m1,m2,m3,m4,m5⟩:=hs _ k5
 refine⟨d,S,ι,w,v,te,tS,⟨some [],false⟩,⟨some [],false⟩,fun _ => ?_,fun hd => ?_,⟨id,fun l hl=>⟨[],rfl,fun j hj=>(by cases hj)⟩⟩,fun l m _ hm j hj=>(by cases hm; cases hj),hR,tY _ _ m4 m3,hw,fun _ _ _=>rfl,Fr.refl _ _ _,hB,gu _ _,m5,rfl,rfl,rfl⟩
 ·simp only[ah,hop,k1,k2,wR,k4,if_true,m1]
 ·simp only[aL,hop,k1,k2,if_neg hh,k4,if_true,m1,Option.map_some]
theorem R6 {k:Nat} {f:Operand} {args:Array Operand} {argTypes:Array TypeId} {g:FuncId} {fs cs xs targs:List TV} {K:TV→Prop} {Q:List TV→Prop} (ho:ops[k]? = some o) (hw:eS ops te o=some true) (hop:o.op = .call { callee := .value f,args,argTypes }) (hh:ty.h o≠1) (hf:iK te f=some (.fn g fs cs)) (ha:oH te args.toList=some xs) (hp:(fs++xs++cs).all gQ=true)
  (hn:bT (jq tt fs argTypes) (fs++xs++cs)=targs) (hs:sE aM g targs K) (h:∀ v,K v→WQ P ty aM call yf ops tS (k+1) (mZ te o.dst v) Q):WQ P ty aM call yf ops tS k te Q:=by
 intro ι env S hR
 obtain⟨A6,jH,M7,k1,k2,k3⟩:=mh hR.env hf ha
 obtain⟨k4,k5⟩:=kL (ts:=jq tt fs argTypes) (ι':=dK) (S':=[]) hp k3
 rw[hn] at k5
 obtain⟨d,v,m1,m2,m3,m4,m5⟩:=hs _ k5
 obtain⟨aD,cT,n1,n2,n3⟩:=h v m5 ι (gV env o.dst d) S (nB hR (tY _ _ m4 m3) _)
 refine⟨aD,cT,?_,n2,n3⟩
 rw[nF ho]
 have hq:dc P ty aM call yf (jb env) o S=some d:=by simp only[dc,hop,k1,k2,if_neg hh,k4,if_true,m1]
 simp only[pn,iF hR.env hw,if_true,hq,n1]
def isRef:TV→Bool
 | .ptr _ _ | .fn _ _ _=>true
 | _=>false
def VB (kp:Nat) (t:Option TT):TV→Option TV
 | .ptr k off=>if k=kp then some (.ptr 0 off) else none
 | v=>if gQ v then some (kR t v) else none
def HD (kp:Nat):List TV→Option (List TV)
 | []=>some []
 | v::l=>match VB kp none v,HD kp l with
  | some a,some b=>some (a::b)
  | _,_=>none
def VE (kp:Nat) (t:Option TT):TV→Option TV
 | .fn g fs cs=>match HD kp fs,HD kp cs with
  | some a,some b=>some (.fn g a b)
  | _,_=>none
 | v=>VB kp t v
def wS (kp:Nat):List (Option TT)→List TV→Option (List TV)
 | _,[]=>some []
 | [],v::l=>match VE kp none v,wS kp [] l with
  | some a,some b=>some (a::b)
  | _,_=>none
 | t::ts,v::l=>match VE kp t v,wS kp ts l with
  | some a,some b=>some (a::b)
  | _,_=>none
def jW (id:Nat):mm:=fun j=>if j=0 then some id else none
theorem MT {kp id:Nat} {t:Option TT} {v v':TV} {d:DV} (hk:ι kp=some id) (h:VB kp t v=some v') (hv:RT ι S v d):RT (jW id) S v' d:=by
 unfold VB at h
 split at h
 ·split at h
  ·rename_i k off Nf
   subst Nf
   cases h
   cases d<;>simp only[RT] at hv ⊢
   rw[hk] at hv
   exact⟨hv.1,hv.2⟩
  ·cases h
 ·split at h
  ·rename_i hp
   cases h
   exact vT hp hv
  ·cases h
theorem Cp {kp id:Nat} (hk:ι kp=some id):∀ {l l':List TV} {m:List DV},HD kp l=some l'→dw ι S l m→dw (jW id) S l' m
 | [],l',m,h,hv=>by cases h; rw[aU hv]; exact cF
 | v::l,l',m,h,hv=>by
  obtain⟨d,m',rfl,h1,h2⟩:=aj hv
  simp only[HD] at h
  split at h
  ·rename_i a b e1 e2
   cases h
   exact aP (MT hk e1 h1) (Cp hk e2 h2)
  ·cases h
theorem MX {kp id:Nat} {t:Option TT} {v v':TV} {d:DV} (hk:ι kp=some id) (h:VE kp t v=some v') (hv:RT ι S v d):RT (jW id) S v' d:=by
 unfold VE at h
 split at h
 ·split at h
  ·rename_i g fs cs a b e1 e2
   cases h
   cases d<;>simp only[RT] at hv ⊢
   exact⟨hv.1,Cp hk e1 hv.2.1,Cp hk e2 hv.2.2⟩
  ·cases h
 ·exact MT hk h hv
theorem Cq {kp id:Nat} (hk:ι kp=some id):∀ {ts:List (Option TT)} {l l':List TV} {m:List DV},wS kp ts l=some l'→dw ι S l m→dw (jW id) S l' m
 | _,[],l',m,h,hv=>by simp only[wS] at h; cases h; rw[aU hv]; exact cF
 | [],v::l,l',m,h,hv=>by
  obtain⟨d,m',rfl,h1,h2⟩:=aj hv
  simp only[wS] at h
  split at h
  ·rename_i a b e1 e2
   cases h
   exact aP (MX hk e1 h1) (Cq hk e2 h2)
  ·cases h
 | t::ts,v::l,l',m,h,hv=>by
  obtain⟨d,m',rfl,h1,h2⟩:=aj hv
  simp only[wS] at h
  split at h
  ·rename_i a b e1 e2
   cases h
   exact aP (MX hk e1 h1) (Cq hk e2 h2)
  ·cases h
theorem vL:∀ {l:List TV} {m:List DV},l.any isRef=true→dw ι S l m→(m.map DV.strip).all DV.pure=false
 | [],_,h,_=>by cases h
 | v::l,m,h,hv=>by
  obtain⟨d,m',rfl,h1,h2⟩:=aj hv
  simp only[List.any_cons,iZ] at h
  rw[bQ,List.all_cons]
  rcases h with h | h
  ·cases v<;>first | (cases h; done) | skip
   ·cases d<;>simp only[RT] at h1; rfl
   ·cases d<;>simp only[RT] at h1; rfl
  ·rw[vL h h2,kY]
def zC (call:bP) (g:FuncId) (targs ts:List TV) (Q:TV→List TV→Prop):Prop :=
 ∀ ι cZ S,cK ι targs [.cells ts] cZ S→∃ d S' ι' v uq k' gR,call g cZ S=some (d,S')∧RT ι' S' v d∧refs v=[]∧ji uq=[]∧ι 0=some k'∧S'[k']? = some (.cells gR)∧dw ι' S' uq gR∧Fr [0] ι S ι' S'∧Nn S.length S S'∧Q v uq
theorem zC.mono {g:FuncId} {targs ts:List TV} {Q Q':TV→List TV→Prop} (h:zC call g targs ts Q) (hq:∀ v ts,Q v ts→Q' v ts):zC call g targs ts Q':=fun ι cZ S hd=>by
 obtain⟨d,S',ι',v,uq,k',gR,h1,h2,h3,h4,h5,h6,h7,h8,h9,x6⟩:=h ι cZ S hd
 exact⟨d,S',ι',v,uq,k',gR,h1,h2,h3,h4,h5,h6,h7,h8,h9,hq _ _ x6⟩
theorem K4 {f:Operand} {args:Array Operand} {argTypes:Array TypeId} {g:FuncId} {fs cs xs targs ts:List TV} {kp:Nat} {Q:TV→List TV→Prop} (hop:o.op = .call { callee := .value f,args,argTypes }) (hh:ty.h o≠1) (hf:iK te f=some (.fn g fs cs)) (ha:oH te args.toList=some xs)
  (hn:wS kp (jq tt fs argTypes) (fs++xs++cs)=some targs) (hr:(fs++xs++cs).any isRef=true) (YY:tS[kp]? = some (.cells ts)) (Pb:ji ts=[]) (hs:zC call g targs ts Q):Does P ty aM call yf B o nT te tS false fun v cT cU ft=>∃ uq,Q v uq∧cT=te∧cU=tS.set kp (.cells uq)∧ft=⟨none,true⟩:=by
 intro ι w env S aH hR hB hw hT Ur hS
 obtain⟨A6,jH,M7,k1,k2,k3⟩:=mh hR.env hf ha
 obtain⟨jE,ds,k6,m2,m3⟩:=hR.cells kp ts YY
 have hc:cK (jW jE) targs [.cells ts] (A6++M7++jH) S:=by
  refine⟨Cq k6 hn k3,fun k l hk => ?_,fun k e s hk => ?_,fun k k' hk => ?_,fun i j k' hi hj => ?_,fun k b hk t ht=>by cases k with | zero=>cases hk; trivial | succ k=>simp at hk⟩
  ·cases k with
   | zero =>
    cases hk
    exact⟨jE,ds,rfl,m2,jy _ _ Pb m3⟩
   | succ k=>simp at hk
  ·cases k<;>simp at hk
  ·by_cases h0:k=0
   ·subst h0; exact⟨_,rfl,fun e=>by cases e⟩
   ·simp only[jW,h0,if_false] at hk; cases hk
  ·by_cases A5:i=0<;>by_cases Ng:j=0
   ·rw[A5,Ng]
   ·simp only[jW,Ng,if_false] at hj; cases hj
   ·simp only[jW,A5,if_false] at hi; cases hi
   ·simp only[jW,A5,if_false] at hi; cases hi
 obtain⟨d,S',ι',v,uq,k',gR,n1,n2,n3,n4,n5,n6,n7,n8,n9,n10⟩:=hs _ _ S hc
 simp only[jW,if_true,aB] at n5
 subst n5
 have rG:∀ k k0,k≠kp→ι k=some k0→S'[k0]? = S[k0]? := by
  intro k k0 hk h0
  refine n8.rest k0 (hR.live h0) fun j hj => ?_
  by_cases Ng:j=0
  ·subst Ng
   simp only[jW,if_true,aB] at hj
   subst hj
   exact hk (hR.inj _ _ _ h0 k6)
  ·simp only[jW,Ng,if_false] at hj; cases hj
 have K:lU ι S ι S' fun _=>False:=fun k k0 _ hk=>⟨hk,by
  by_cases Nf:k=kp
  ·subst Nf
   rw[k6] at hk
   cases hk
   exact xd (by rw[m2]; simp) (by rw[m2]; simp)
  ·exact fR (rG k k0 Nf hk)⟩
 have hnp:=vL hr k3
 refine⟨d,S',ι,w,v,te,tS.set kp (.cells uq),⟨none,true⟩,⟨none,true⟩,fun _ => ?_,fun hd=>(by cases hd),⟨fun e=>e,fun l hl=>(by cases hl)⟩,fun l m hl=>(by cases hl),?_,tY _ _ n3 n2,hw,fun _ _ _=>rfl,⟨fun k0 hl hno=>n8.rest k0 hl fun j hj => ?_,fun k k0 hk => .inl ⟨k,hk⟩,fun _ _=>rfl⟩,fun k hk => ?_,⟨n9.1,fun j hj fV => ?_⟩,uq,n10,rfl,rfl,rfl⟩
 ·simp only[ah,hop,k1,k2,wR,hnp,aF,if_false,n1]
 ·refine⟨bU K _ _ hR.env,fun k l hk => ?_,fun k e s hk t ht => ?_,fun k k0 hk => ?_,hR.inj,fun k b hk t ht=>by
   rw[aQ] at hk
   split at hk
   ·split at hk<;>cases hk
    trivial
   ·rename_i e1
    rw[rG k t (fun e=>e1 e.symm) ht]; exact hR.mp k b hk t ht⟩
  ·rw[aQ] at hk
   split at hk
   ·rename_i e1
    subst e1
    split at hk
    ·cases hk
     exact⟨jE,gR,k6,n6,jy _ _ n4 n7⟩
    ·cases hk
   ·rename_i e1
    obtain⟨k0,Nk,q1,q2,q3⟩:=hR.cells k l hk
    exact⟨k0,Nk,q1,by rw[rG k k0 (Ne.symm e1) q1]; exact q2,bU K _ _ q3⟩
  ·rw[aQ] at hk
   split at hk
   ·split at hk<;>cases hk
   ·obtain⟨n,q1⟩:=hR.own k e s hk t ht
    exact⟨n,(K k t (fun e=>e) ht).2.1 _ _ _ q1⟩
  ·rw[aQ]
   split
   ·rename_i e1
    subst e1
    exact⟨_,if_pos (aJ.1 YY).1,fun e=>by cases e⟩
   ·exact hR.xY k k0 hk
 ·by_cases Ng:j=0
  ·subst Ng
   simp only[jW,if_true,aB] at hj
   subst hj
   exact hno _ k6
  ·simp only[jW,Ng,if_false] at hj; cases hj
 ·rw[aQ]
  split
  ·rename_i e1
   subst e1
   exact⟨_,if_pos (aJ.1 YY).1⟩
  ·exact hB k hk
 ·have:=(aJ.1 fV).1
  exact n9.2 j (by omega) fV
def wP:TV→Bool
 | .val v => !(v matches .tuple _)
 | .sl _ _ .no=>true
 | _=>false
def Hw:TV→Bool
 | .agg l=>l.all wP
 | .val _ | .sl _ _ .no=>true
 | _=>false
def LN:TV→Bool
 | .gd l=>l.all Hw
 | v=>Hw v
theorem Ja {v:TV} {d:DV} (hp:wP v=true) (h:RT ι S v d):d.aV.ck=true∧RT ι' S' v d.aV:=by
 cases v<;>first | (cases hp; done) | skip
 ·cases d<;>simp only[RT] at h
  subst h
  exact⟨hp,by simp only[RT,DV.aV]⟩
 ·rename_i t l ap
  cases ap<;>first | (cases hp; done) | skip
  cases d<;>simp only[RT] at h
  exact⟨rfl,by simp only[RT,DV.aV]; exact⟨h.1,trivial⟩⟩
theorem nM:∀ {l:List TV} {m:List DV},l.all wP=true→dw ι S l m→(m.map DV.aV).all DV.ck=true∧dw ι' S' l (m.map DV.aV)
 | [],m,_,h=>by rw[aU h]; exact⟨rfl,cF⟩
 | a::l,m,hp,h=>by
  obtain⟨d,m',rfl,h1,h2⟩:=aj h
  simp only[List.all_cons,aI] at hp
  obtain⟨k1,k2⟩:=Ja (ι':=ι') (S':=S') hp.1 h1
  obtain⟨k3,k4⟩:=nM hp.2 h2
  exact⟨by rw[bQ,List.all_cons,k1,k3]; rfl,aP k2 k4⟩
theorem Aa {v:TV} {d:DV} (hp:Hw v=true) (h:RT ι S v d):d.dG.jV=true∧RT ι' S' v d.dG:=by
 cases v<;>first | (cases hp; done) | skip
 ·cases d<;>simp only[RT] at h
  subst h
  exact⟨rfl,by simp only[RT,DV.dG]⟩
 ·cases d<;>simp only[RT] at h
  obtain⟨k1,k2⟩:=nM (ι':=ι') (S':=S') hp h
  exact⟨k1,by simp only[RT,DV.dG]; exact k2⟩
 ·rename_i t l ap
  cases ap<;>first | (cases hp; done) | skip
  cases d<;>simp only[RT] at h
  exact⟨rfl,by simp only[RT,DV.dG]; exact⟨h.1,trivial⟩⟩
theorem xT:∀ {l:List TV} {m:List DV},l.all Hw=true→dw ι S l m→(m.map DV.dG).all DV.jV=true∧dw ι' S' l (m.map DV.dG)
 | [],m,_,h=>by rw[aU h]; exact⟨rfl,cF⟩
 | a::l,m,hp,h=>by
  obtain⟨d,m',rfl,h1,h2⟩:=aj h
  simp only[List.all_cons,aI] at hp
  obtain⟨k1,k2⟩:=Aa (ι':=ι') (S':=S') hp.1 h1
  obtain⟨k3,k4⟩:=xT hp.2 h2
  exact⟨by rw[bQ,List.all_cons,k1,k3]; rfl,aP k2 k4⟩
theorem I9 {v:TV} {d:DV} (hp:LN v=true) (h:RT ι S v d):d.strip.pure=true∧RT ι' S' v d.strip:=by
 by_cases hd:∃ l,d = .gd l
 ·obtain⟨m,rfl⟩:=hd
  cases v<;>simp only[RT] at h<;>first | (cases hp; done) | skip
  obtain⟨k1,k2⟩:=xT (ι':=ι') (S':=S') hp h
  exact⟨k1,by simp only[RT,DV.strip]; exact k2⟩
 ·have hv:Hw v=true:=by
   cases v<;>first | exact hp | skip
   cases d<;>simp only[RT] at h
   exact(hd ⟨_,rfl⟩).elim
  obtain⟨k1,k2⟩:=Aa (ι':=ι') (S':=S') hv h
  have e:d.strip=d.dG:=by cases d<;>first | rfl | exact(hd ⟨_,rfl⟩).elim
  refine⟨?_,by rw[e]; exact k2⟩
  rw[e]
  have:∀ c:DV,c.jV=true→(∀ l,c ≠ .gd l)→c.pure=true:=fun c h hn=>by cases c<;>first | exact h | exact(hn _ rfl).elim
  refine this _ k1 fun l hl => ?_
  cases d<;>simp only[DV.dG] at hl<;>first | (cases hl; done) | exact hd ⟨_,rfl⟩
theorem Jc {f:Operand} {args:Array Operand} {argTypes:Array TypeId} {g:FuncId} {fs cs xs rest ts:List TV} {kp off:Nat} {Q:TV→List TV→Prop} (hop:o.op = .call { callee := .value f,args,argTypes }) (hh:ty.h o≠1) (hf:iK te f=some (.fn g fs cs)) (ha:oH te args.toList=some xs)
  (hl:fs++xs++cs = .ptr kp off::rest) (hp:rest.all gQ=true) (YY:tS[kp]? = some (.cells ts)) (wC:ts.all wP=true) (hs:zC call g (.ptr 0 off::bT (jq tt fs argTypes).tail rest) ts Q) (hq:∀ v uq,Q v uq→LN v=true∧uq.all wP=true) :
  Does P ty aM call yf B o nT te tS true fun v cT cU ft=>∃ uq,Q v uq∧cT=te∧cU=tS.set kp (.cells uq)∧ft=⟨some [kp],true⟩:=by
 intro ι w env S aH hR hB hw hT Ur hS
 obtain⟨A6,jH,M7,k1,k2,k3⟩:=mh hR.env hf ha
 obtain⟨jE,ds,k6,m2,m3⟩:=hR.cells kp ts YY
 rw[hl] at k3
 obtain⟨d0,m0,hm0,Nc,Ju⟩:=aj k3
 have Jy:d0 = .ptr jE off:=by
  cases d0<;>simp only[RT] at Nc
  obtain⟨e1,e2⟩:=Nc
  rw[k6] at e1
  cases e1
  rw[e2]
 subst Jy
 obtain⟨p1,p2⟩:=kL (ts:=(jq tt fs argTypes).tail) (ι':=jW 0) (S':=[.cells (ds.map DV.aV)]) hp Ju
 obtain⟨c1,c2⟩:=nM (ι':=jW 0) (S':=[.cells (ds.map DV.aV)]) wC m3
 have hc:cK (jW 0) (.ptr 0 off::bT (jq tt fs argTypes).tail rest) [.cells ts] (.ptr 0 off::m0.map DV.strip) [.cells (ds.map DV.aV)]:=by
  refine⟨aP (by simp only[RT]; exact⟨rfl,trivial⟩) p2,fun k l hk => ?_,fun k e s hk => ?_,fun k k' hk => ?_,fun i j k' hi hj => ?_,fun k b hk t ht=>by cases k with | zero=>cases hk; trivial | succ k=>simp at hk⟩
  ·cases k with
   | zero =>
    cases hk
    exact⟨0,_,rfl,rfl,c2⟩
   | succ k=>simp at hk
  ·cases k<;>simp at hk
  ·by_cases h0:k=0
   ·subst h0; exact⟨_,rfl,fun e=>by cases e⟩
   ·simp only[jW,h0,if_false] at hk; cases hk
  ·by_cases A5:i=0<;>by_cases Ng:j=0
   ·rw[A5,Ng]
   ·simp only[jW,Ng,if_false] at hj; cases hj
   ·simp only[jW,A5,if_false] at hi; cases hi
   ·simp only[jW,A5,if_false] at hi; cases hi
 obtain⟨d,S1,ι1,v,uq,k',gR,n1,n2,n3,n4,n5,n6,n7,n8,n9,n10⟩:=hs _ _ _ hc
 simp only[jW,if_true,aB] at n5
 subst n5
 obtain⟨q1,q2⟩:=hq _ _ n10
 obtain⟨r1,r2⟩:=I9 (ι':=ι) (S':=S.set jE (.cells (gR.map DV.aV))) q1 n2
 obtain⟨r3,r4⟩:=nM (ι':=ι) (S':=S.set jE (.cells (gR.map DV.aV))) q2 n7
 have adw:∃ T,S1 = .cells gR::T:=by
  cases S1 with
  | nil=>simp at n6
  | cons a T=>simp only[List.getElem?_cons_zero,aB] at n6; exact⟨T,by rw[n6]⟩
 obtain⟨T,rfl⟩:=adw
 have hid:jE<S.length:=(aJ.1 m2).1
 have rG:∀ k0,k0≠jE→(S.set jE (.cells (gR.map DV.aV)))[k0]? = S[k0]? := fun k0 h=>by rw[aQ,if_neg fun e=>h e.symm]
 have hkp:∀ k,k≠kp→∀ k0,ι k=some k0→k0≠jE:=fun k hk k0 h0 e=>hk (hR.inj _ _ _ (e▸h0) k6)
 have K:lU ι S ι (S.set jE (.cells (gR.map DV.aV))) fun _=>False:=fun k k0 _ hk=>⟨hk,by
  by_cases Nf:k0=jE
  ·subst Nf
   exact xd (by rw[m2]; simp) (by rw[m2]; simp)
  ·exact fR (rG k0 Nf)⟩
 have hnp:((A6++M7++jH).map DV.strip).all DV.pure=false:=by rw[hm0]; rfl
 have ho:zg call g (A6++M7++jH) S=some (jE,d.strip,gR.map DV.aV):=by
  rw[hm0]
  simp only[zg,m2,p1,c1,gA,if_true,n1,r1,r3]
 refine⟨d.strip,S.set jE (.cells (gR.map DV.aV)),ι,w,v,te,tS.set kp (.cells uq),⟨some [jE],true⟩,⟨some [kp],true⟩,fun hd=>(by cases hd),fun _ => ?_,⟨fun e=>e,fun l hl => ?_⟩,fun l m hl hm j hj => ?_,?_,r2,hw,fun _ _ _=>rfl,⟨fun k0 hl hno=>rG k0 fun e=>hno _ (e▸k6),fun k k0 hk => .inl ⟨k,hk⟩,fun _ _=>rfl⟩,fun k hk => ?_,⟨by simp,fun j hj fV => ?_⟩,uq,n10,rfl,rfl,rfl⟩
 ·simp only[aL,hop,k1,k2,if_neg hh,hnp,aF,if_false,ho]
 ·cases hl
  exact⟨[jE],rfl,fun j hj=>⟨kp,by simp,by simp only[bN] at hj; rw[hj]; exact hw _ _ k6⟩⟩
 ·cases hm
  simp only[bN] at hj
  exact .inr ⟨kp,hj▸k6⟩
 ·refine⟨bU K _ _ hR.env,fun k l hk => ?_,fun k e s hk t ht => ?_,fun k k0 hk => ?_,hR.inj,fun k b hk t ht=>by
   rw[aQ] at hk
   split at hk
   ·split at hk<;>cases hk
    trivial
   ·rename_i e1
    rw[rG t (hkp k (fun e=>e1 e.symm) t ht)]; exact hR.mp k b hk t ht⟩
  ·rw[aQ] at hk
   split at hk
   ·rename_i e1
    subst e1
    split at hk
    ·cases hk
     exact⟨jE,_,k6,by rw[aQ,if_pos rfl,if_pos hid],r4⟩
    ·cases hk
   ·rename_i e1
    obtain⟨k0,Nk,q1,q2,q3⟩:=hR.cells k l hk
    exact⟨k0,Nk,q1,by rw[rG k0 (hkp k (Ne.symm e1) k0 q1)]; exact q2,bU K _ _ q3⟩
  ·rw[aQ] at hk
   split at hk
   ·split at hk<;>cases hk
   ·obtain⟨n,q1⟩:=hR.own k e s hk t ht
    exact⟨n,(K k t (fun e=>e) ht).2.1 _ _ _ q1⟩
  ·rw[aQ]
   split
   ·rename_i e1
    subst e1
    exact⟨_,if_pos (aJ.1 YY).1,fun e=>by cases e⟩
   ·exact hR.xY k k0 hk
 ·rw[aQ]
  split
  ·rename_i e1
   subst e1
   exact⟨_,if_pos (aJ.1 YY).1⟩
  ·exact hB k hk
 ·rw[rG j]
  ·exact fV
  ·intro e
   rw[e,m2] at fV
   cases fV
end Go.Tv
end
