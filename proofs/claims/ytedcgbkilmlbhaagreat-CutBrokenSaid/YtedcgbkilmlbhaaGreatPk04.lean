import Derived.Test.YtedcgbkilmlbhaaGreatPk03
section
namespace Go.Tv
open Go Go.Di
def jX:List TB→List TB
 | []=>[]
 | b::l=>match jX l,b with
  | [],.none=>[]
  | l',b=>b::l'
theorem Cu:∀ tS:List TB,∃ n,tS=jX tS++List.replicate n .none
 | []=>⟨0,rfl⟩
 | b::l=>by
  obtain⟨n,h⟩:=Cu l
  simp only[jX]
  split
  ·rename_i e
   rw[e] at h
   exact⟨n+1,by rw[h]; rfl⟩
  ·exact⟨n,by rw[List.cons_append,← h]⟩
inductive sX:List TV→List TV→Prop
 | nil:sX [] []
 | unk {v:TV} {l m:List TV}:sX l m→sX (.unk::l) (v::m)
 | same {v:TV} {l m:List TV}:sX l m→sX (v::l) (v::m)
 | no {t:TT} {x:List t.den} {ap:Ap} {l m:List TV}:sX l m→sX (.sl t x .no::l) (.sl t x ap::m)
 | qA {t:TT} {g:Nat} {l m:List TV}:sX l m→sX (.sl t [] (.qA g)::l) (.sl t [] .full::m)
 | ei {t:TT} {ap:Ap} {l m:List TV}:sX l m→sX (.sl t [] ap::l) (.ei::m)
 | agg {a b l m:List TV}:sX a b→sX l m→sX (.agg a::l) (.agg b::m)
theorem sX.refl:∀ l:List TV,sX l l
 | [] => .nil
 | _::l => .same (sX.refl l)
mutual
def refs:TV→List Nat
 | .sl _ _ (.qA g)=>[g]
 | .ptr id _=>[id]
 | .mp id=>[id]
 | .so g _=>[g]
 | .sp g _ _ _=>[g]
 | .agg l=>gf l
 | .ee l=>gf l
 | .fn _ a b=>gf a++gf b
 | _=>[]
def gf:List TV→List Nat
 | []=>[]
 | a::l=>refs a++gf l
end
inductive Aa:List TB→List TB→Prop
 | nil {l:List TB}:Aa [] l
 | none {b:TB} {l m:List TB}:Aa l m→Aa (.none::l) (b::m)
 | own {e s:Nat} {l m:List TB}:Aa l m→Aa (.own e s::l) (.own e s::m)
 | new {e s:Nat} {l:List TB}:Aa l []→Aa (.own e s::l) []
 | cells {a b:List TV} {l m:List TB}:sX a b→Aa l m→Aa (.cells a::l) (.cells b::m)
 | map {kt:TT} {c:List kt.den} {l m:List TB}:Aa l m→Aa (.map kt c::l) (.map kt c::m)
 | rows {t:TT} {e:Nat} {c:List t.den} {z:Bool} {l m:List TB}:Aa l m→Aa (.rows t e c z::l) (.rows t e c z::m)
def kR (tS:List TB) (k:Nat):Bool :=
 match tS[k]? with
 | some .none | none=>false
 | _=>true
def AP:List TB→List Nat
 | []=>[]
 | .cells a::l=>gf a++AP l
 | _::l=>AP l
def okB (te:List TV) (tS:List TB):Bool:=(gf te++AP tS).all (kR tS)
variable {P:Program} {ty:eV} {tt:TypeId→Option TT} {ι ι' w:jF} {S S':ak} {te jU:List TV} {env:List DV} {tS gM:List TB} {aD:bn} {call:aW} {yf:dH} {o:Oper} {aA nT:Nat} {B:List Nat} {r:TR} {ops:Array Oper}
theorem Gq {l m:List TV} (h:sX l m):∀ {ds:List DV},cA ι S m ds→cA ι S l ds:=by
 induction h with
 | nil=>exact id
 | unk _ ih=>intro ds hd; obtain⟨d,m',rfl,h1,h2⟩:=aj hd; exact aG (by simp only[RT]) (ih h2)
 | same _ ih=>intro ds hd; obtain⟨d,m',rfl,h1,h2⟩:=aj hd; exact aG h1 (ih h2)
 | no _ ih =>
  intro ds hd
  obtain⟨d,m',rfl,h1,h2⟩:=aj hd
  refine aG ?_ (ih h2)
  cases d<;>simp only[RT] at h1 ⊢
  exact⟨h1.1,trivial⟩
 | qA _ ih =>
  intro ds hd
  obtain⟨d,m',rfl,h1,h2⟩:=aj hd
  refine aG ?_ (ih h2)
  cases d<;>simp only[RT] at h1 ⊢
  exact⟨h1.1,.inl ⟨h1.2.1,h1.2.2,iS h1.1⟩⟩
 | ei _ ih =>
  rename_i ap _ _ _
  intro ds hd
  obtain⟨d,m',rfl,h1,h2⟩:=aj hd
  refine aG ?_ (ih h2)
  cases d<;>simp only[RT] at h1 ⊢
  obtain⟨rfl,rfl,rfl⟩:=h1
  refine⟨trivial,?_⟩
  cases ap with
  | no=>trivial
  | full=>exact⟨rfl,rfl⟩
  | qA g=>exact .inl ⟨rfl,rfl,rfl⟩
 | agg _ _ Jd KX =>
  intro ds hd
  obtain⟨d,m',rfl,h1,h2⟩:=aj hd
  refine aG ?_ (KX h2)
  cases d<;>simp only[RT] at h1 ⊢
  exact Jd h1
mutual
theorem Rk:∀ (v:TV) (d:DV),(∀ k∈refs v,ι' k=ι k)→RT ι S v d→RT ι' S v d
 | .unk,_,_,_=>by simp only[RT]
 | .val _,d,_,k=>by cases d<;>simp only[RT] at k ⊢; exact k
 | .ei,d,_,k=>by cases d<;>simp only[RT] at k ⊢; exact k
 | .agg l,d,h,k=>by cases d<;>simp only[RT] at k ⊢; exact lp l _ h k
 | .ee l,d,h,k=>by cases d<;>simp only[RT] at k ⊢; exact lp l _ h k
 | .sl t l .no,d,_,k=>by cases d<;>simp only[RT] at k ⊢; exact k
 | .sl t l .full,d,_,k=>by cases d<;>simp only[RT] at k ⊢; exact k
 | .sl t l (.qA g),d,h,k=>by
  cases d<;>simp only[RT,qK] at k ⊢
  rw[h g (by simp[refs])]
  exact k
 | .ptr id off,d,h,k=>by
  cases d<;>simp only[RT] at k ⊢
  rw[h id (by simp[refs])]
  exact k
 | .cU t l i off,d,_,k=>by cases d<;>simp only[RT] at k ⊢; exact k
 | .mp id,d,h,k=>by
  cases d<;>simp only[RT] at k ⊢
  rw[h id (by simp[refs])]
  exact k
 | .so g t,d,h,k=>by
  cases d<;>simp only[RT] at k ⊢
  rw[h g (by simp[refs])]
  exact k
 | .sp g t i off,d,h,k=>by
  cases d<;>simp only[RT] at k ⊢
  rw[h g (by simp[refs])]
  exact k
 | .fn f a b,d,h,k=>by
  cases d<;>simp only[RT] at k ⊢
  exact⟨k.1,lp a _ (fun j hj=>h j (by simp[refs,hj])) k.2.1,lp b _ (fun j hj=>h j (by simp[refs,hj])) k.2.2⟩
theorem lp:∀ (l:List TV) (m:List DV),(∀ k∈gf l,ι' k=ι k)→cA ι S l m→cA ι' S l m
 | [],m,_,k=>by rw[aJ k]; exact bJ
 | a::l,m,h,k=>by
  obtain⟨d,m',rfl,h1,h2⟩:=aj k
  exact aG (Rk a d (fun j hj=>h j (by simp[gf,hj])) h1) (lp l m' (fun j hj=>h j (by simp[gf,hj])) h2)
end
theorem xz {l m:List TB} (h:Aa l m):∀ {k:Nat} {b:TB},l[k]? = some b→b = .none∨(∃ e s,b = .own e s∧(m[k]? = some (.own e s)∨m[k]? = none))∨(∃ a c,b = .cells a∧m[k]? = some (.cells c)∧sX a c)∨(m[k]? = some b∧(∀ l,b ≠ .cells l)∧∀ e s,b ≠ .own e s):=by
 induction h with
 | nil=>intro k b hb; simp at hb
 | none _ ih =>
  intro k b hb
  cases k with
  | zero=>simp only[List.getElem?_cons_zero,Option.some.injEq] at hb; exact .inl hb.symm
  | succ k=>simpa using ih (k:=k) (by simpa using hb)
 | own _ ih =>
  intro k b hb
  cases k with
  | zero=>simp only[List.getElem?_cons_zero,Option.some.injEq] at hb; subst hb; exact .inr (.inl ⟨_,_,rfl,.inl rfl⟩)
  | succ k=>simpa using ih (k:=k) (by simpa using hb)
 | new _ ih =>
  intro k b hb
  cases k with
  | zero=>simp only[List.getElem?_cons_zero,Option.some.injEq] at hb; subst hb; exact .inr (.inl ⟨_,_,rfl,.inr rfl⟩)
  | succ k=>simpa using ih (k:=k) (by simpa using hb)
 | cells hl _ ih =>
  intro k b hb
  cases k with
  | zero=>simp only[List.getElem?_cons_zero,Option.some.injEq] at hb; subst hb; exact .inr (.inr (.inl ⟨_,_,rfl,rfl,hl⟩))
  | succ k=>simpa using ih (k:=k) (by simpa using hb)
 | map _ ih =>
  intro k b hb
  cases k with
  | zero=>simp only[List.getElem?_cons_zero,Option.some.injEq] at hb; subst hb; exact .inr (.inr (.inr ⟨rfl,by simp,by simp⟩))
  | succ k=>simpa using ih (k:=k) (by simpa using hb)
 | rows _ ih =>
  intro k b hb
  cases k with
  | zero=>simp only[List.getElem?_cons_zero,Option.some.injEq] at hb; subst hb; exact .inr (.inr (.inr ⟨rfl,by simp,by simp⟩))
  | succ k=>simpa using ih (k:=k) (by simpa using hb)
theorem Bo {k:Nat} {a:List TV}:∀ {tS:List TB} {j:Nat},tS[j]? = some (.cells a)→k∈gf a→k∈AP tS
 | [],_,h,_=>by simp at h
 | b::l,0,h,hk=>by
  simp only[List.getElem?_cons_zero,Option.some.injEq] at h
  subst h
  simp[AP,hk]
 | b::l,j+1,h,hk=>by
  have:=Bo (tS:=l) (j:=j) (by simpa using h) hk
  cases b<;>simp[AP,this]
theorem oW (h:bK ι te tS env S) (hl:sX jU te) (hb:Aa gM tS) (gZ:okB jU gM=true) (hB:lY B gM):∃ ι1,bK ι1 jU gM env S∧Fr B ι S ι1 S∧(∀ k,ι1 k=if kR gM k then ι k else none):=by
 simp only[okB,List.all_append,Bool.and_eq_true,List.all_eq_true] at gZ
 refine⟨fun k=>if kR gM k then ι k else none,⟨?_,fun k l hk => ?_,fun k e s hk t ht => ?_,fun k k' hk => ?_,fun i j k' hi hj => ?_,fun k b hk t ht => ?_⟩,⟨fun _ _ _=>rfl,fun k k' hk => ?_,fun k hk => ?_⟩,fun _=>rfl⟩
 ·refine lp _ _ (fun k hk => ?_) (Gq hl h.env)
  rw[if_pos (gZ.1 k hk)]
 ·rcases xz hb hk with e | ⟨_,_,e,-⟩ | ⟨a,c,e,h1,h2⟩ | ⟨_,e,-⟩
  ·cases e
  ·cases e
  rotate_left
  ·exact absurd rfl (e _)
  ·cases e
   obtain⟨k',ds,n1,n2,n3⟩:=h.cells k c h1
   refine⟨k',ds,?_,n2,lp _ _ (fun j hj => ?_) (Gq h2 n3)⟩
   ·have:kR gM k=true:=by simp only[kR,hk]
    rw[if_pos this]; exact n1
   ·rw[if_pos (gZ.2 j (Bo hk hj))]
 ·split at ht
  ·rcases xz hb hk with e' | ⟨_,_,e',h1⟩ | ⟨a,c,e',h1,h2⟩ | ⟨_,-,e'⟩
   rotate_left 3
   ·exact absurd rfl (e' _ _)
   ·cases e'
   ·cases e'
    rcases h1 with h1 | h1
    ·exact h.own k e s h1 t ht
    ·obtain⟨b,h2,-⟩:=h.uE k t ht
     rw[h1] at h2; cases h2
   ·cases e'
  ·cases ht
 ·split at hk
  ·rename_i fV
   unfold kR at fV
   split at fV
   ·cases fV
   ·cases fV
   ·rename_i b HP wP
    cases hx:gM[k]? with
    | none=>exact(wP hx).elim
    | some b=>exact⟨b,rfl,fun e=>HP (by rw[hx,e])⟩
  ·cases hk
 ·split at hi
  ·split at hj
   ·exact h.inj i j k' hi hj
   ·cases hj
  ·cases hi
 ·split at ht
  ·rcases xz hb hk with e' | ⟨_,_,e',-⟩ | ⟨_,_,e',-⟩ | ⟨h1,-⟩
   ·subst e'; trivial
   ·subst e'; trivial
   ·subst e'; trivial
   ·exact h.mp k _ h1 t ht
  ·cases ht
 ·split at hk
  ·exact .inl ⟨k,hk⟩
  ·cases hk
 ·obtain⟨l,h1⟩:=hB k hk
  have:kR gM k=true:=by simp only[kR,h1]
  simp only[this,if_true]
theorem pg (hb:Aa gM tS) (hB:lY B tS) (h:∀ k,k∈B→kR gM k=true):lY B gM:=by
 intro k hk
 have h1:=h k hk
 obtain⟨l,h2⟩:=hB k hk
 unfold kR at h1
 split at h1
 ·cases h1
 ·cases h1
 ·rename_i b HP wP
  cases hx:gM[k]? with
  | none=>exact(wP hx).elim
  | some b =>
   rcases xz hb hx with e | ⟨_,_,e,h3⟩ | ⟨a,c,e,-,-⟩ | ⟨h3,e,-⟩
   ·exact(HP (by rw[hx,e])).elim
   ·rw[h2] at h3; rcases h3 with h3 | h3<;>cases h3
   ·exact⟨a,by rw[e]⟩
   ·rw[h2] at h3; cases h3; exact absurd rfl (e _)
theorem Ez (h:bK ι te tS env S):bK ι te (jX tS) env S:=by
 obtain⟨n,hn⟩:=Cu tS
 have hT:∀ (k:Nat) (b:TB),b ≠ .none→(tS[k]? = some b↔(jX tS)[k]? = some b):=by
  intro k b hb
  conv=>lhs; rw[hn]
  rw[List.getElem?_append]
  split
  ·rfl
  ·rename_i hlt
   rw[List.getElem?_eq_none (l:=jX tS) (by omega),List.getElem?_replicate]
   split
   ·exact⟨fun e=>by cases e; exact(hb rfl).elim,fun e=>by cases e⟩
   ·exact Iff.rfl
 refine⟨h.env,fun k l hk=>h.cells k l ((hT _ _ (fun e=>by cases e)).2 hk),fun k e s hk=>h.own k e s ((hT _ _ (fun e=>by cases e)).2 hk),fun k k' hk => ?_,h.inj,fun k b hk t ht=>by
  cases b with
  | none=>trivial
  | _=>exact h.mp k _ ((hT _ _ (fun e=>by cases e)).2 hk) t ht⟩
 obtain⟨b,h1,h2⟩:=h.uE k k' hk
 exact⟨b,(hT _ _ h2).1 h1,h2⟩
theorem E0 (hB:lY B tS):lY B (jX tS):=by
 intro k hk
 obtain⟨l,h1⟩:=hB k hk
 obtain⟨n,hn⟩:=Cu tS
 refine⟨l,?_⟩
 rw[hn,List.getElem?_append] at h1
 split at h1
 ·exact h1
 ·rw[List.getElem?_replicate] at h1
  split at h1<;>cases h1
section
variable (P:Program) (ty:eV) (aD:bn) (call:aW) (yf:dH) (B:List Nat) (L:Nat) (fn:FuncId) (fC:Bool)
def WT (c:Code) (te:List TV) (tS:List TB) (Q:DX→List TV→List TB→Prop):Prop :=
 ∀ ι env S,bK ι te tS env S→lY B tS→∃ e ay S' ι' bT bV,bC P ty aD call yf L fn fC c env S=some (e,ay,S')∧bK ι' bT bV ay S'∧lY B bV∧Fr B ι S ι' S'∧Nn S.length S S'∧Q e bT bV
end
section
variable {L:Nat} {fn:FuncId} {fC:Bool} {a b c:Code} {Q Q':DX→List TV→List TB→Prop}
theorem WT.mono (h:WT P ty aD call yf B L fn fC c te tS Q) (hq:∀ e te tS,Q e te tS→Q' e te tS):WT P ty aD call yf B L fn fC c te tS Q':=by
 intro ι env S hR hB
 obtain⟨e,ay,S',ι',bT,bV,h1,h2,h3,h4,h5,h6⟩:=h ι env S hR hB
 exact⟨e,ay,S',ι',bT,bV,h1,h2,h3,h4,h5,hq _ _ _ h6⟩
theorem QO (h:Q .normal te tS):WT P ty aD call yf B L fn fC .skip te tS Q:=fun ι env S hR hB=>⟨.normal,env,S,ι,te,tS,rfl,hR,hB,Fr.refl _ _ _,ek _ _,h⟩
theorem NB {l:Nat} (h:Q .normal te tS):WT P ty aD call yf B L fn fC (.label l) te tS Q:=fun ι env S hR hB=>⟨.normal,env,S,ι,te,tS,rfl,hR,hB,Fr.refl _ _ _,ek _ _,h⟩
theorem QU {id:Nat} (h:Q (.exit id) te tS):WT P ty aD call yf B L fn fC (.exit id) te tS Q:=fun ι env S hR hB=>⟨.exit id,env,S,ι,te,tS,rfl,hR,hB,Fr.refl _ _ _,ek _ _,h⟩
theorem Wl (h:Q .ret te tS):WT P ty aD call yf B L fn fC .ret te tS Q:=fun ι env S hR hB=>⟨.ret,env,S,ι,te,tS,rfl,hR,hB,Fr.refl _ _ _,ek _ _,h⟩
theorem Nx (h:WT P ty aD call yf B L fn fC c te tS Q):WT P ty aD call yf B L fn fC (.scope c) te tS Q:=fun ι env S hR hB=>by
 obtain⟨e,ay,S',ι',bT,bV,h1,h2⟩:=h ι env S hR hB
 exact⟨e,ay,S',ι',bT,bV,by simp only[bC,h1],h2⟩
theorem MP (h:WT P ty aD call yf B L fn fC a te tS fun e te tS=>match e with | .normal=>WT P ty aD call yf B L fn fC b te tS Q | e=>Q e te tS):WT P ty aD call yf B L fn fC (.seq a b) te tS Q:=by
 intro ι env S hR hB
 obtain⟨e,ay,S',ι',bT,bV,h1,h2,h3,h4,h5,h6⟩:=h ι env S hR hB
 cases e with
 | normal =>
  obtain⟨e,mG,ry,ι'',rB,rC,k1,k2,k3,k4,k5,k6⟩:=h6 ι' ay S' h2 h3
  exact⟨e,mG,ry,ι'',rB,rC,by simp only[bC,h1,k1],k2,k3,h4.trans k4,o6 h5 k5,k6⟩
 | exit id=>exact⟨_,ay,S',ι',bT,bV,by simp only[bC,h1],h2,h3,h4,h5,h6⟩
 | ret=>exact⟨_,ay,S',ι',bT,bV,by simp only[bC,h1],h2,h3,h4,h5,h6⟩
theorem QV {x:Operand} {t:Bool} (hx:fD te x=some (.val (.bool t))) (h1:t=true→WT P ty aD call yf B L fn fC a te tS Q) (h2:t=false→WT P ty aD call yf B L fn fC b te tS Q):WT P ty aD call yf B L fn fC (.cond x a b) te tS Q:=by
 intro ι env S hR hB
 obtain⟨d,k1,k2⟩:=aT hR.env hx
 cases d<;>simp only[RT] at k2
 subst k2
 cases t with
 | true =>
  obtain⟨e,ay,S',ι',bT,bV,m1,m2⟩:=h1 rfl ι env S hR hB
  exact⟨e,ay,S',ι',bT,bV,by simp only[bC,k1,m1],m2⟩
 | false =>
  obtain⟨e,ay,S',ι',bT,bV,m1,m2⟩:=h2 rfl ι env S hR hB
  exact⟨e,ay,S',ι',bT,bV,by simp only[bC,k1,m1],m2⟩
theorem ND {id:Nat} (h:WT P ty aD call yf B L fn fC c te tS fun e te tS=>match e with | .exit gE=>Q (if gE=id then .normal else .exit gE) te tS | e=>Q e te tS):WT P ty aD call yf B L fn fC (.block id c) te tS Q:=by
 intro ι env S hR hB
 obtain⟨e,ay,S',ι',bT,bV,h1,h2,h3,h4,h5,h6⟩:=h ι env S hR hB
 cases e with
 | normal=>exact⟨_,ay,S',ι',bT,bV,by simp only[bC,h1],h2,h3,h4,h5,h6⟩
 | exit gE=>exact⟨_,ay,S',ι',bT,bV,by simp only[bC,h1],h2,h3,h4,h5,h6⟩
 | ret=>exact⟨_,ay,S',ι',bT,bV,by simp only[bC,h1],h2,h3,h4,h5,h6⟩
theorem QS (hl:sX jU te) (hb:Aa gM tS) (gZ:okB jU gM=true) (hB:∀ k,k∈B→kR gM k=true) (h:WT P ty aD call yf B L fn fC c jU gM Q):WT P ty aD call yf B L fn fC c te tS Q:=by
 intro ι env S hR Te
 have Jj:=pg hb Te hB
 obtain⟨ι1,h1,h2,-⟩:=oW hR hl hb gZ Jj
 obtain⟨e,ay,S',ι',bT,bV,m1,m2,m3,m4,m5⟩:=h ι1 env S h1 Jj
 exact⟨e,ay,S',ι',bT,bV,m1,m2,m3,h2.trans m4,m5⟩
structure Fits (B:List Nat) (jU:List TV) (gM:List TB) (te:List TV) (tS:List TB):Prop where
 l:sX jU te
 b:Aa gM tS
 ok:okB jU gM=true
 base:∀ k,k∈B→kR gM k=true
theorem NA {id:Nat} (h:WL P ty aD call yf B ops 0 te tS fun te tS=>Q .normal te (jX tS)):WT P ty aD call yf B L fn fC (.region id ops false) te tS Q:=by
 intro ι env S hR hB
 obtain⟨ay,S',ι',bT,bV,h1,h2,h3,h4,h5,h6⟩:=h ι env S hR hB
 refine⟨.normal,ay,S',ι',bT,jX bV,?_,Ez h2,E0 h3,h4,h5,h6⟩
 rw[List.drop_zero] at h1
 simp only[bC,lP,Bool.false_eq_true,if_false,h1,Option.map_some]
theorem Ny {id:Nat} (hd:iP ops (Region.before ops)=true) (hl:qM P ops=false) (h:WQ P ty aD call yf ops tS 0 te fun te=>Q .normal te tS):WT P ty aD call yf B L fn fC (.region id ops true) te tS Q:=by
 intro ι env S hR hB
 obtain⟨ay,bT,h1,h2,h3⟩:=h ι env S hR
 refine⟨.normal,ay,S,ι,bT,tS,?_,h2,hB,Fr.refl _ _ _,ek _ _,h3⟩
 rw[List.drop_zero] at h1
 simp only[qM,Bool.or_eq_false_iff] at hl
 simp only[bC,lP,if_true,hd,hl.2,Bool.not_true,Bool.false_eq_true,if_false,h1,Option.map_some]
theorem NC {id:Nat} (hd:iP ops (Region.before ops)=true) (hn:qM P ops=true) (h:WD P ty aD call yf B ops 0 te (tS++List.replicate ops.size .none) [] fun te tS=>Q .normal te (jX tS)):WT P ty aD call yf B L fn fC (.region id ops true) te tS Q:=by
 intro ι env S hR hB
 have jQ:=Rs hR ops.size ops.size
 obtain⟨w,hw⟩:=F8 jQ
 have hB':lY B (tS++List.replicate ops.size .none):=fun k hk=>by
  obtain⟨l,h1⟩:=hB k hk
  exact⟨l,by rw[List.getElem?_append_left (List.getElem?_eq_some_iff.1 h1).1]; exact h1⟩
 obtain⟨ay,S',xI,ι',w',bT,bV,ft,h1,h2,-,h4,h5,h6,h7,h8,h9⟩:=h ι w env (S++List.replicate ops.size .none) S.length jQ hB' hw (fun j _ hj=>by
  rw[List.getElem?_append_right (by omega),List.getElem?_replicate,if_pos (by omega)])
 refine⟨.normal,ay,S',ι',bT,jX bV,?_,Ez h5,E0 h6,⟨fun k' hl hno => ?_,fun k k' hk => ?_,h7.base⟩,⟨?_,fun j hj dN => ?_⟩,h9⟩
 ·rw[List.drop_zero] at h1
  simp only[bC,lP,if_true,hd,Bool.not_true,Bool.false_eq_true,if_false,Ku hn,h1,Xb h2 (by simpa using h4),Option.map_some]
 ·have e:=ext_get (n:=ops.size) hl
  rw[h7.rest k' (by obtain⟨b,e1,e2⟩:=hl; exact⟨b,e.trans e1,e2⟩) hno]
  exact e
 ·refine(h7.ours k k' hk).imp (fun e=>e) fun K8 hl=>K8 ?_
  obtain⟨b,e1,e2⟩:=hl
  exact⟨b,(ext_get ⟨b,e1,e2⟩).trans e1,e2⟩
 ·have:=h8.1
  rw[List.length_append] at this
  omega
 ·have hlt:=(List.getElem?_eq_some_iff.1 dN).1
  exact h8.2 j (fun i _ _=>by omega) (by rw[List.getElem?_append_left hlt]; exact dN)
end
end Go.Tv
end
section
namespace Go.Tv
open Go Go.Di
def Ca:TV→Bool
 | .val v => !(v matches .tuple _)
 | .ei | .sl _ _ _=>true
 | _=>false
def eC:TV→Bool
 | .agg l=>l.all Ca
 | .val _ | .ei | .sl _ _ _=>true
 | _=>false
def mE:TV→TV
 | .sl k l _ => .sl k l .no
 | .ei => .unk
 | v=>v
def iN:Option TT→TV→TV
 | some (.sl e),.ei => .sl e [] .no
 | _,.ei => .unk
 | _,.sl k l _ => .sl k l .no
 | some t,.agg l=>match t.of l with
  | some (x,[]) => .agg (t.cells x)
  | _ => .agg (l.map mE)
 | none,.agg l => .agg (l.map mE)
 | _,v=>v
def aX:List (Option TT)→List TV→List TV
 | _,[]=>[]
 | [],v::l=>iN none v::aX [] l
 | t::ts,v::l=>iN t v::aX ts l
def gp (tt:TypeId→Option TT) (fs:List TV) (argTypes:Array TypeId):List (Option TT):=fs.map (fun _=>none)++argTypes.toList.map tt
variable {P:Program} {ty:eV} {tt:TypeId→Option TT} {ι ι' w:jF} {S S':ak} {te jU:List TV} {env:List DV} {tS gM:List TB} {aD:bn} {call:aW} {yf:dH} {o:Oper} {aA nT:Nat} {B:List Nat} {r:TR} {ops:Array Oper}
mutual
theorem qi:∀ (v:TV) (d:DV),refs v=[]→RT ι S v d→RT ι' S' v d
 | .unk,_,_,_=>by simp only[RT]
 | .val _,d,_,k=>by cases d<;>simp only[RT] at k ⊢; exact k
 | .ei,d,_,k=>by cases d<;>simp only[RT] at k ⊢; exact k
 | .agg l,d,h,k=>by cases d<;>simp only[RT] at k ⊢; exact gz l _ h k
 | .ee l,d,h,k=>by cases d<;>simp only[RT] at k ⊢; exact gz l _ h k
 | .sl t l .no,d,_,k=>by cases d<;>simp only[RT] at k ⊢; exact k
 | .sl t l .full,d,_,k=>by cases d<;>simp only[RT] at k ⊢; exact k
 | .sl t l (.qA g),d,h,k=>by simp[refs] at h
 | .ptr id off,d,h,k=>by simp[refs] at h
 | .cU t l i off,d,_,k=>by cases d<;>simp only[RT] at k ⊢; exact k
 | .mp id,d,h,k=>by simp[refs] at h
 | .so g t,d,h,k=>by simp[refs] at h
 | .sp g t i off,d,h,k=>by simp[refs] at h
 | .fn f a b,d,h,k=>by
  cases d<;>simp only[RT] at k ⊢
  simp only[refs,List.append_eq_nil_iff] at h
  exact⟨k.1,gz a _ h.1 k.2.1,gz b _ h.2 k.2.2⟩
theorem gz:∀ (l:List TV) (m:List DV),gf l=[]→cA ι S l m→cA ι' S' l m
 | [],m,_,k=>by rw[aJ k]; exact bJ
 | a::l,m,h,k=>by
  obtain⟨d,m',rfl,h1,h2⟩:=aj k
  simp only[gf,List.append_eq_nil_iff] at h
  exact aG (qi a d h.1 h1) (gz l m' h.2 h2)
end
theorem Fb {v:TV} {d:DV} (hp:Ca v=true) (h:RT ι S v d):d.aI.bt=true∧RT ι' S' (mE v) d.aI:=by
 cases v<;>first | (cases hp; done) | skip
 ·cases d<;>simp only[RT] at h
  subst h
  exact⟨hp,by simp only[mE,RT,DV.aI]⟩
 ·cases d<;>simp only[RT] at h
  exact⟨rfl,by simp only[mE,RT]⟩
 ·cases d<;>simp only[RT] at h
  exact⟨rfl,by simp only[mE,RT,DV.aI]; exact⟨h.1,trivial⟩⟩
theorem wj:∀ {l:List TV} {m:List DV},l.all Ca=true→cA ι S l m→(m.map DV.aI).all DV.bt=true∧cA ι' S' (l.map mE) (m.map DV.aI)
 | [],m,_,h=>by rw[aJ h]; exact⟨rfl,bJ⟩
 | a::l,m,hp,h=>by
  obtain⟨d,m',rfl,h1,h2⟩:=aj h
  simp only[List.all_cons,Bool.and_eq_true] at hp
  obtain⟨k1,k2⟩:=Fb (ι':=ι') (S':=S') hp.1 h1
  obtain⟨k3,k4⟩:=wj hp.2 h2
  exact⟨by simp[k1] at k3 ⊢; exact k3,aG k2 k4⟩
theorem yJ:∀ {t:TT} {l:List TV} {x:t.den} {r:List TV} {m:List DV},t.of l=some (x,r)→cA ι S l m→∃ c m',m=c++m'∧cA ι' S' (t.cells x) c∧cA ι S r m'
 | .int k,l,x,r,m,h,hm=>by
  simp only[TT.of] at h
  unfold ofInt at h
  split at h
  ·split at h
   ·rename_i hk
    cases h
    obtain⟨d,m',rfl,h1,h2⟩:=aj hm
    cases d<;>simp only[RT] at h1
    subst h1
    subst hk
    exact⟨[_],m',rfl,di (by simp only[RT]),h2⟩
   ·cases h
  ·cases h
 | .bool,l,x,r,m,h,hm=>by
  simp only[TT.of] at h
  unfold ofBool at h
  split at h
  ·cases h
   obtain⟨d,m',rfl,h1,h2⟩:=aj hm
   cases d<;>simp only[RT] at h1
   subst h1
   exact⟨[_],m',rfl,di (by simp only[RT]),h2⟩
  ·cases h
 | .str,l,x,r,m,h,hm=>by
  simp only[TT.of] at h
  unfold ofStr at h
  split at h
  ·cases h
   obtain⟨d,m',rfl,h1,h2⟩:=aj hm
   cases d<;>simp only[RT] at h1
   subst h1
   exact⟨[_],m',rfl,di (by simp only[RT]),h2⟩
  ·cases h
 | .unit,l,x,r,m,h,hm=>by
  simp only[TT.of] at h
  cases h
  exact⟨[],m,rfl,bJ,hm⟩
 | .pair a b,l,x,r,m,h,hm=>by
  simp only[TT.of] at h
  split at h
  ·rename_i x1 r1 h1
   split at h
   ·rename_i y r2 h2
    cases h
    obtain⟨c,m1,rfl,k1,k2⟩:=yJ h1 hm
    obtain⟨c',m2,rfl,k3,k4⟩:=yJ h2 k2
    exact⟨c++c',m2,by simp,dA k1 k3,k4⟩
   ·cases h
  ·cases h
 | .sl t,l,x,r,m,h,hm=>by
  simp only[TT.of] at h
  unfold Qp at h
  split at h
  ·split at h
   ·rename_i ht
    subst ht
    cases h
    obtain⟨d,m',rfl,h1,h2⟩:=aj hm
    cases d<;>simp only[RT] at h1
    exact⟨[_],m',rfl,di (by simp only[RT]; exact⟨h1.1,trivial⟩),h2⟩
   ·cases h
  ·cases h
   obtain⟨d,m',rfl,h1,h2⟩:=aj hm
   cases d<;>simp only[RT] at h1
   obtain⟨rfl,rfl,rfl⟩:=h1
   exact⟨[_],m',rfl,di (by simp only[RT,dK]; exact⟨trivial,trivial⟩),h2⟩
  ·cases h
theorem jq {t:Option TT} {v:TV} {d:DV} (hp:eC v=true) (h:RT ι S v d):d.strip.pure=true∧(∀ l,d ≠ .ee l)∧RT ι' S' (iN t v) d.strip:=by
 cases v with
 | agg l =>
  cases d<;>simp only[RT] at h
  rename_i m
  obtain⟨k1,k2⟩:=wj (ι':=ι') (S':=S') hp h
  refine⟨k1,fun _ e=>(by cases e),?_⟩
  cases t with
  | none=>simp only[iN,RT,DV.strip,DV.cv]; exact k2
  | some t =>
   have e:iN (some t) (.agg l)=match t.of l with | some (x,[]) => .agg (t.cells x) | _ => .agg (l.map mE):=by cases t<;>rfl
   rw[e]
   split
   ·rename_i x ho
    obtain⟨c,m',rfl,n1,n2⟩:=AQ ho h
    rw[aJ n2,List.append_nil]
    simp only[RT,DV.strip,DV.cv]
    exact mP n1
   ·simp only[RT,DV.strip,DV.cv]; exact k2
 | val u =>
  cases d<;>simp only[RT] at h
  rename_i u'
  subst h
  refine⟨rfl,fun _ e=>(by cases e),?_⟩
  have e:iN t (.val u') = .val u':=by cases t with | none=>rfl | some t=>cases t<;>rfl
  rw[e]
  simp only[RT,DV.strip,DV.cv]
 | ei =>
  cases d<;>simp only[RT] at h
  obtain⟨rfl,rfl,rfl⟩:=h
  refine⟨rfl,fun _ e=>(by cases e),?_⟩
  cases t with
  | none=>simp only[iN,RT]
  | some t =>
   cases t with
   | sl e=>simp only[iN,RT,DV.strip,DV.cv,dK]; exact⟨trivial,trivial⟩
   | _=>simp only[iN,RT]
 | sl k l ap =>
  cases d<;>simp only[RT] at h
  refine⟨rfl,fun _ e=>(by cases e),?_⟩
  have e:iN t (.sl k l ap) = .sl k l .no:=by cases t with | none=>rfl | some t=>cases t<;>rfl
  rw[e]
  simp only[RT,DV.strip,DV.cv]
  exact⟨h.1,trivial⟩
 | _=>cases hp
theorem sB {t:Option TT} {v:TV} {d:DV} (hp:eC v=true) (h:RT ι S v d):RT ι' S' (iN t v) d:=by
 have n1:∀ {l:List TV} {m:List DV},l.all Ca=true→cA ι S l m→cA ι' S' (l.map mE) m:=by
  intro l
  induction l with
  | nil=>intro m _ h; rw[aJ h]; exact bJ
  | cons a l ih =>
   intro m hp h
   obtain⟨d,m',rfl,h1,h2⟩:=aj h
   simp only[List.all_cons,Bool.and_eq_true] at hp
   refine aG ?_ (ih hp.2 h2)
   cases a<;>first | (cases hp.1; done) | skip
   ·cases d<;>simp only[RT] at h1
    simp only[mE,RT]; exact h1
   ·simp only[mE,RT]
   ·cases d<;>simp only[RT] at h1
    simp only[mE,RT]; exact⟨h1.1,trivial⟩
 cases v with
 | agg l =>
  cases d<;>simp only[RT] at h
  rename_i m
  cases t with
  | none=>simp only[iN,RT]; exact n1 hp h
  | some t =>
   have e:iN (some t) (.agg l)=match t.of l with | some (x,[]) => .agg (t.cells x) | _ => .agg (l.map mE):=by cases t<;>rfl
   rw[e]
   split
   ·rename_i x ho
    obtain⟨c,m',rfl,k1,k2⟩:=yJ (ι':=ι') (S':=S') ho h
    rw[aJ k2,List.append_nil]
    simp only[RT]
    exact k1
   ·simp only[RT]; exact n1 hp h
 | val u =>
  cases d<;>simp only[RT] at h
  have e:iN t (.val u) = .val u:=by cases t with | none=>rfl | some t=>cases t<;>rfl
  rw[e]
  simp only[RT]
  exact h
 | ei =>
  cases d<;>simp only[RT] at h
  obtain⟨rfl,rfl,rfl⟩:=h
  cases t with
  | none=>simp only[iN,RT]
  | some t =>
   cases t with
   | sl e=>simp only[iN,RT,dK]; exact⟨trivial,trivial⟩
   | _=>simp only[iN,RT]
 | sl k l ap =>
  cases d<;>simp only[RT] at h
  have e:iN t (.sl k l ap) = .sl k l .no:=by cases t with | none=>rfl | some t=>cases t<;>rfl
  rw[e]
  simp only[RT]
  exact⟨h.1,trivial⟩
 | _=>cases hp
theorem iF:∀ {ts:List (Option TT)} {l:List TV} {m:List DV},l.all eC=true→cA ι S l m→(m.map DV.strip).all DV.pure=true∧cA ι' S' (aX ts l) (m.map DV.strip)
 | _,[],m,_,h=>by rw[aJ h]; exact⟨rfl,by simp only[aX,List.map_nil]; exact bJ⟩
 | [],a::l,m,hp,h=>by
  obtain⟨d,m',rfl,h1,h2⟩:=aj h
  simp only[List.all_cons,Bool.and_eq_true] at hp
  obtain⟨k1,-,k2⟩:=jq (t:=none) (ι':=ι') (S':=S') hp.1 h1
  obtain⟨k3,k4⟩:=iF (ts:=[]) hp.2 h2
  refine⟨?_,by simp only[aX,List.map_cons]; exact aG k2 k4⟩
  rw[List.map_cons,List.all_cons,k1,k3]; rfl
 | t::ts,a::l,m,hp,h=>by
  obtain⟨d,m',rfl,h1,h2⟩:=aj h
  simp only[List.all_cons,Bool.and_eq_true] at hp
  obtain⟨k1,-,k2⟩:=jq (t:=t) (ι':=ι') (S':=S') hp.1 h1
  obtain⟨k3,k4⟩:=iF (ts:=ts) hp.2 h2
  refine⟨?_,by simp only[aX,List.map_cons]; exact aG k2 k4⟩
  rw[List.map_cons,List.all_cons,k1,k3]; rfl
theorem iG:∀ {ts:List (Option TT)} {l:List TV} {m:List DV},l.all eC=true→cA ι S l m→cA ι' S' (aX ts l) m
 | _,[],m,_,h=>by rw[aJ h]; simp only[aX]; exact bJ
 | [],a::l,m,hp,h=>by
  obtain⟨d,m',rfl,h1,h2⟩:=aj h
  simp only[List.all_cons,Bool.and_eq_true] at hp
  simp only[aX]
  exact aG (sB hp.1 h1) (iG hp.2 h2)
 | t::ts,a::l,m,hp,h=>by
  obtain⟨d,m',rfl,h1,h2⟩:=aj h
  simp only[List.all_cons,Bool.and_eq_true] at hp
  simp only[aX]
  exact aG (sB hp.1 h1) (iG hp.2 h2)
def eD:jF:=fun _=>none
def oM (aD:bn) (g:FuncId) (targs:List TV) (Q:TV→Prop):Prop :=
 ∀ cn,cA eD [] targs cn→∃ d v,aD g cn=some d∧d.pure=true∧RT eD [] v d∧refs v=[]∧Q v
theorem oM.mono {g:FuncId} {targs:List TV} {Q Q':TV→Prop} (h:oM aD g targs Q) (hq:∀ v,Q v→Q' v):oM aD g targs Q':=fun cn hd=>by
 obtain⟨d,v,h1,h2,h3,h4,h5⟩:=h cn hd
 exact⟨d,v,h1,h2,h3,h4,hq v h5⟩
theorem jr (hE:cA ι S te env) {f:Operand} {args:Array Operand} {g:FuncId} {fs cs xs:List TV} (hf:fD te f=some (.fn g fs cs)) (ha:lH te args.toList=some xs) :
  ∃ xI jw Jc,ga env f=some (.fn g xI jw)∧evs (ga env) args.toList=some Jc∧cA ι S (fs++xs++cs) (xI++Jc++jw):=by
 obtain⟨d,k1,k2⟩:=aT hE hf
 obtain⟨Jc,k3,k4⟩:=qa hE ha
 cases d<;>simp only[RT] at k2
 obtain⟨rfl,k5,k6⟩:=k2
 exact⟨_,_,Jc,k1,k3,dA (dA k5 k4) k6⟩
theorem zJ {f:Operand} {args:Array Operand} {argTypes:Array TypeId} {g:FuncId} {fs cs xs targs:List TV} {Q:TV→Prop} (hop:o.op = .call { callee := .value f,args,argTypes }) (hh:ty.h o≠1) (hf:fD te f=some (.fn g fs cs)) (ha:lH te args.toList=some xs) (hp:(fs++xs++cs).all eC=true)
  (hn:aX (gp tt fs argTypes) (fs++xs++cs)=targs) (hs:oM aD g targs Q) (dr:Bool):Does P ty aD call yf B o nT te tS dr fun v bT bV ft=>Q v∧bT=te∧bV=tS∧ft=⟨some [],false⟩:=by
 intro ι w env S aA hR hB hw hT Px hS
 obtain⟨xI,jw,Jc,k1,k2,k3⟩:=jr hR.env hf ha
 obtain⟨k4,k5⟩:=iF (ts:=gp tt fs argTypes) (ι':=eD) (S':=[]) hp k3
 rw[hn] at k5
 obtain⟨d,v,m1,m2,m3,m4,m5⟩:=hs _ k5
 refine⟨d,S,ι,w,v,te,tS,⟨some [],false⟩,⟨some [],false⟩,fun _ => ?_,fun hd => ?_,⟨id,fun l hl=>⟨[],rfl,fun j hj=>(by cases hj)⟩⟩,fun l m _ hm j hj=>(by cases hm; cases hj),hR,qi _ _ m4 m3,hw,fun _ _ _=>rfl,Fr.refl _ _ _,hB,ek _ _,m5,rfl,rfl,rfl⟩
 ·simp only[ai,hop,k1,k2,tw,k4,if_true,m1]
 ·simp only[aC,hop,k1,k2,if_neg hh,k4,if_true,m1,Option.map_some]
theorem NG {k:Nat} {f:Operand} {args:Array Operand} {argTypes:Array TypeId} {g:FuncId} {fs cs xs targs:List TV} {K:TV→Prop} {Q:List TV→Prop} (ho:ops[k]? = some o) (hw:dc ops te o=some true) (hop:o.op = .call { callee := .value f,args,argTypes }) (hh:ty.h o≠1) (hf:fD te f=some (.fn g fs cs)) (ha:lH te args.toList=some xs) (hp:(fs++xs++cs).all eC=true)
  (hn:aX (gp tt fs argTypes) (fs++xs++cs)=targs) (hs:oM aD g targs K) (h:∀ v,K v→WQ P ty aD call yf ops tS (k+1) (jZ te o.dst v) Q):WQ P ty aD call yf ops tS k te Q:=by
 intro ι env S hR
 obtain⟨xI,jw,Jc,k1,k2,k3⟩:=jr hR.env hf ha
 obtain⟨k4,k5⟩:=iF (ts:=gp tt fs argTypes) (ι':=eD) (S':=[]) hp k3
 rw[hn] at k5
 obtain⟨d,v,m1,m2,m3,m4,m5⟩:=hs _ k5
 obtain⟨ay,bT,n1,n2,n3⟩:=h v m5 ι (eH env o.dst d) S (ku hR (qi _ _ m4 m3) _)
 refine⟨ay,bT,?_,n2,n3⟩
 rw[kC ho]
 have hq:bZ P ty aD call yf (ga env) o S=some d:=by simp only[bZ,hop,k1,k2,if_neg hh,k4,if_true,m1]
 simp only[lZ,fq hR.env hw,if_true,hq,n1]
def isRef:TV→Bool
 | .ptr _ _ | .fn _ _ _=>true
 | _=>false
def QF (kp:Nat) (t:Option TT):TV→Option TV
 | .ptr k off=>if k=kp then some (.ptr 0 off) else none
 | v=>if eC v then some (iN t v) else none
def Ea (kp:Nat):List TV→Option (List TV)
 | []=>some []
 | v::l=>match QF kp none v,Ea kp l with
  | some a,some b=>some (a::b)
  | _,_=>none
def QI (kp:Nat) (t:Option TT):TV→Option TV
 | .fn g fs cs=>match Ea kp fs,Ea kp cs with
  | some a,some b=>some (.fn g a b)
  | _,_=>none
 | v=>QF kp t v
def tA (kp:Nat):List (Option TT)→List TV→Option (List TV)
 | _,[]=>some []
 | [],v::l=>match QI kp none v,tA kp [] l with
  | some a,some b=>some (a::b)
  | _,_=>none
 | t::ts,v::l=>match QI kp t v,tA kp ts l with
  | some a,some b=>some (a::b)
  | _,_=>none
def gQ (id:Nat):jF:=fun j=>if j=0 then some id else none
theorem I5 {kp id:Nat} {t:Option TT} {v v':TV} {d:DV} (hk:ι kp=some id) (h:QF kp t v=some v') (hv:RT ι S v d):RT (gQ id) S v' d:=by
 unfold QF at h
 split at h
 ·split at h
  ·rename_i k off Jg
   subst Jg
   cases h
   cases d<;>simp only[RT] at hv ⊢
   rw[hk] at hv
   exact⟨hv.1,hv.2⟩
  ·cases h
 ·split at h
  ·rename_i hp
   cases h
   exact sB hp hv
  ·cases h
theorem y6 {kp id:Nat} (hk:ι kp=some id):∀ {l l':List TV} {m:List DV},Ea kp l=some l'→cA ι S l m→cA (gQ id) S l' m
 | [],l',m,h,hv=>by cases h; rw[aJ hv]; exact bJ
 | v::l,l',m,h,hv=>by
  obtain⟨d,m',rfl,h1,h2⟩:=aj hv
  simp only[Ea] at h
  split at h
  ·rename_i a b e1 e2
   cases h
   exact aG (I5 hk e1 h1) (y6 hk e2 h2)
  ·cases h
theorem I7 {kp id:Nat} {t:Option TT} {v v':TV} {d:DV} (hk:ι kp=some id) (h:QI kp t v=some v') (hv:RT ι S v d):RT (gQ id) S v' d:=by
 unfold QI at h
 split at h
 ·split at h
  ·rename_i g fs cs a b e1 e2
   cases h
   cases d<;>simp only[RT] at hv ⊢
   exact⟨hv.1,y6 hk e1 hv.2.1,y6 hk e2 hv.2.2⟩
  ·cases h
 ·exact I5 hk h hv
theorem y7 {kp id:Nat} (hk:ι kp=some id):∀ {ts:List (Option TT)} {l l':List TV} {m:List DV},tA kp ts l=some l'→cA ι S l m→cA (gQ id) S l' m
 | _,[],l',m,h,hv=>by simp only[tA] at h; cases h; rw[aJ hv]; exact bJ
 | [],v::l,l',m,h,hv=>by
  obtain⟨d,m',rfl,h1,h2⟩:=aj hv
  simp only[tA] at h
  split at h
  ·rename_i a b e1 e2
   cases h
   exact aG (I7 hk e1 h1) (y7 hk e2 h2)
  ·cases h
 | t::ts,v::l,l',m,h,hv=>by
  obtain⟨d,m',rfl,h1,h2⟩:=aj hv
  simp only[tA] at h
  split at h
  ·rename_i a b e1 e2
   cases h
   exact aG (I7 hk e1 h1) (y7 hk e2 h2)
  ·cases h
theorem sg:∀ {l:List TV} {m:List DV},l.any isRef=true→cA ι S l m→(m.map DV.strip).all DV.pure=false
 | [],_,h,_=>by cases h
 | v::l,m,h,hv=>by
  obtain⟨d,m',rfl,h1,h2⟩:=aj hv
  simp only[List.any_cons,Bool.or_eq_true] at h
  rw[List.map_cons,List.all_cons]
  rcases h with h | h
  ·cases v<;>first | (cases h; done) | skip
   ·cases d<;>simp only[RT] at h1; rfl
   ·cases d<;>simp only[RT] at h1; rfl
  ·rw[sg h h2,Bool.and_false]
def vY (call:aW) (g:FuncId) (targs ts:List TV) (Q:TV→List TV→Prop):Prop :=
 ∀ ι cn S,bK ι targs [.cells ts] cn S→∃ d S' ι' v qy k' eE,call g cn S=some (d,S')∧RT ι' S' v d∧refs v=[]∧gf qy=[]∧ι 0=some k'∧S'[k']? = some (.cells eE)∧cA ι' S' qy eE∧Fr [0] ι S ι' S'∧Nn S.length S S'∧Q v qy
theorem vY.mono {g:FuncId} {targs ts:List TV} {Q Q':TV→List TV→Prop} (h:vY call g targs ts Q) (hq:∀ v ts,Q v ts→Q' v ts):vY call g targs ts Q':=fun ι cn S hd=>by
 obtain⟨d,S',ι',v,qy,k',eE,h1,h2,h3,h4,h5,h6,h7,h8,h9,qZ⟩:=h ι cn S hd
 exact⟨d,S',ι',v,qy,k',eE,h1,h2,h3,h4,h5,h6,h7,h8,h9,hq _ _ qZ⟩
theorem Ho {f:Operand} {args:Array Operand} {argTypes:Array TypeId} {g:FuncId} {fs cs xs targs ts:List TV} {kp:Nat} {Q:TV→List TV→Prop} (hop:o.op = .call { callee := .value f,args,argTypes }) (hh:ty.h o≠1) (hf:fD te f=some (.fn g fs cs)) (ha:lH te args.toList=some xs)
  (hn:tA kp (gp tt fs argTypes) (fs++xs++cs)=some targs) (hr:(fs++xs++cs).any isRef=true) (UG:tS[kp]? = some (.cells ts)) (Pw:gf ts=[]) (hs:vY call g targs ts Q):Does P ty aD call yf B o nT te tS false fun v bT bV ft=>∃ qy,Q v qy∧bT=te∧bV=tS.set kp (.cells qy)∧ft=⟨none,true⟩:=by
 intro ι w env S aA hR hB hw hT Px hS
 obtain⟨xI,jw,Jc,k1,k2,k3⟩:=jr hR.env hf ha
 obtain⟨gE,ds,k6,m2,m3⟩:=hR.cells kp ts UG
 have hc:bK (gQ gE) targs [.cells ts] (xI++Jc++jw) S:=by
  refine⟨y7 k6 hn k3,fun k l hk => ?_,fun k e s hk => ?_,fun k k' hk => ?_,fun i j k' hi hj => ?_,fun k b hk t ht=>by cases k with | zero=>cases hk; trivial | succ k=>simp at hk⟩
  ·cases k with
   | zero =>
    cases hk
    exact⟨gE,ds,rfl,m2,gz _ _ Pw m3⟩
   | succ k=>simp at hk
  ·cases k<;>simp at hk
  ·by_cases h0:k=0
   ·subst h0; exact⟨_,rfl,fun e=>by cases e⟩
   ·simp only[gQ,h0,if_false] at hk; cases hk
  ·by_cases xH:i=0<;>by_cases Jh:j=0
   ·rw[xH,Jh]
   ·simp only[gQ,Jh,if_false] at hj; cases hj
   ·simp only[gQ,xH,if_false] at hi; cases hi
   ·simp only[gQ,xH,if_false] at hi; cases hi
 obtain⟨d,S',ι',v,qy,k',eE,n1,n2,n3,n4,n5,n6,n7,n8,n9,n10⟩:=hs _ _ S hc
 simp only[gQ,if_true,Option.some.injEq] at n5
 subst n5
 have oa:∀ k k0,k≠kp→ι k=some k0→S'[k0]? = S[k0]? := by
  intro k k0 hk h0
  refine n8.rest k0 (hR.live h0) fun j hj => ?_
  by_cases Jh:j=0
  ·subst Jh
   simp only[gQ,if_true,Option.some.injEq] at hj
   subst hj
   exact hk (hR.inj _ _ _ h0 k6)
  ·simp only[gQ,Jh,if_false] at hj; cases hj
 have K:jg ι S ι S' fun _=>False:=fun k k0 _ hk=>⟨hk,by
  by_cases Jg:k=kp
  ·subst Jg
   rw[k6] at hk
   cases hk
   exact tH (by rw[m2]; simp) (by rw[m2]; simp)
  ·exact dM (oa k k0 Jg hk)⟩
 have YC:=sg hr k3
 refine⟨d,S',ι,w,v,te,tS.set kp (.cells qy),⟨none,true⟩,⟨none,true⟩,fun _ => ?_,fun hd=>(by cases hd),⟨fun e=>e,fun l hl=>(by cases hl)⟩,fun l m hl=>(by cases hl),?_,qi _ _ n3 n2,hw,fun _ _ _=>rfl,⟨fun k0 hl hno=>n8.rest k0 hl fun j hj => ?_,fun k k0 hk => .inl ⟨k,hk⟩,fun _ _=>rfl⟩,fun k hk => ?_,⟨n9.1,fun j hj dN => ?_⟩,qy,n10,rfl,rfl,rfl⟩
 ·simp only[ai,hop,k1,k2,tw,YC,Bool.false_eq_true,if_false,n1]
 ·refine⟨aY K _ _ hR.env,fun k l hk => ?_,fun k e s hk t ht => ?_,fun k k0 hk => ?_,hR.inj,fun k b hk t ht=>by
   rw[List.getElem?_set] at hk
   split at hk
   ·split at hk<;>cases hk
    trivial
   ·rename_i e1
    rw[oa k t (fun e=>e1 e.symm) ht]; exact hR.mp k b hk t ht⟩
  ·rw[List.getElem?_set] at hk
   split at hk
   ·rename_i e1
    subst e1
    split at hk
    ·cases hk
     exact⟨gE,eE,k6,n6,gz _ _ n4 n7⟩
    ·cases hk
   ·rename_i e1
    obtain⟨k0,Jk,q1,q2,q3⟩:=hR.cells k l hk
    exact⟨k0,Jk,q1,by rw[oa k k0 (Ne.symm e1) q1]; exact q2,aY K _ _ q3⟩
  ·rw[List.getElem?_set] at hk
   split at hk
   ·split at hk<;>cases hk
   ·obtain⟨n,q1⟩:=hR.own k e s hk t ht
    exact⟨n,(K k t (fun e=>e) ht).2.1 _ _ _ q1⟩
  ·rw[List.getElem?_set]
   split
   ·rename_i e1
    subst e1
    exact⟨_,if_pos (List.getElem?_eq_some_iff.1 UG).1,fun e=>by cases e⟩
   ·exact hR.uE k k0 hk
 ·by_cases Jh:j=0
  ·subst Jh
   simp only[gQ,if_true,Option.some.injEq] at hj
   subst hj
   exact hno _ k6
  ·simp only[gQ,Jh,if_false] at hj; cases hj
 ·rw[List.getElem?_set]
  split
  ·rename_i e1
   subst e1
   exact⟨_,if_pos (List.getElem?_eq_some_iff.1 UG).1⟩
  ·exact hB k hk
 ·have:=(List.getElem?_eq_some_iff.1 dN).1
  exact n9.2 j (by omega) dN
def tq:TV→Bool
 | .val v => !(v matches .tuple _)
 | .sl _ _ .no=>true
 | _=>false
def D6:TV→Bool
 | .agg l=>l.all tq
 | .val _ | .sl _ _ .no=>true
 | _=>false
def H8:TV→Bool
 | .ee l=>l.all D6
 | v=>D6 v
theorem Fw {v:TV} {d:DV} (hp:tq v=true) (h:RT ι S v d):d.aI.bt=true∧RT ι' S' v d.aI:=by
 cases v<;>first | (cases hp; done) | skip
 ·cases d<;>simp only[RT] at h
  subst h
  exact⟨hp,by simp only[RT,DV.aI]⟩
 ·rename_i t l ap
  cases ap<;>first | (cases hp; done) | skip
  cases d<;>simp only[RT] at h
  exact⟨rfl,by simp only[RT,DV.aI]; exact⟨h.1,trivial⟩⟩
theorem kF:∀ {l:List TV} {m:List DV},l.all tq=true→cA ι S l m→(m.map DV.aI).all DV.bt=true∧cA ι' S' l (m.map DV.aI)
 | [],m,_,h=>by rw[aJ h]; exact⟨rfl,bJ⟩
 | a::l,m,hp,h=>by
  obtain⟨d,m',rfl,h1,h2⟩:=aj h
  simp only[List.all_cons,Bool.and_eq_true] at hp
  obtain⟨k1,k2⟩:=Fw (ι':=ι') (S':=S') hp.1 h1
  obtain⟨k3,k4⟩:=kF hp.2 h2
  exact⟨by rw[List.map_cons,List.all_cons,k1,k3]; rfl,aG k2 k4⟩
theorem wH {v:TV} {d:DV} (hp:D6 v=true) (h:RT ι S v d):d.cv.gP=true∧RT ι' S' v d.cv:=by
 cases v<;>first | (cases hp; done) | skip
 ·cases d<;>simp only[RT] at h
  subst h
  exact⟨rfl,by simp only[RT,DV.cv]⟩
 ·cases d<;>simp only[RT] at h
  obtain⟨k1,k2⟩:=kF (ι':=ι') (S':=S') hp h
  exact⟨k1,by simp only[RT,DV.cv]; exact k2⟩
 ·rename_i t l ap
  cases ap<;>first | (cases hp; done) | skip
  cases d<;>simp only[RT] at h
  exact⟨rfl,by simp only[RT,DV.cv]; exact⟨h.1,trivial⟩⟩
theorem uA:∀ {l:List TV} {m:List DV},l.all D6=true→cA ι S l m→(m.map DV.cv).all DV.gP=true∧cA ι' S' l (m.map DV.cv)
 | [],m,_,h=>by rw[aJ h]; exact⟨rfl,bJ⟩
 | a::l,m,hp,h=>by
  obtain⟨d,m',rfl,h1,h2⟩:=aj h
  simp only[List.all_cons,Bool.and_eq_true] at hp
  obtain⟨k1,k2⟩:=wH (ι':=ι') (S':=S') hp.1 h1
  obtain⟨k3,k4⟩:=uA hp.2 h2
  exact⟨by rw[List.map_cons,List.all_cons,k1,k3]; rfl,aG k2 k4⟩
theorem Fv {v:TV} {d:DV} (hp:H8 v=true) (h:RT ι S v d):d.strip.pure=true∧RT ι' S' v d.strip:=by
 by_cases hd:∃ l,d = .ee l
 ·obtain⟨m,rfl⟩:=hd
  cases v<;>simp only[RT] at h<;>first | (cases hp; done) | skip
  obtain⟨k1,k2⟩:=uA (ι':=ι') (S':=S') hp h
  exact⟨k1,by simp only[RT,DV.strip]; exact k2⟩
 ·have hv:D6 v=true:=by
   cases v<;>first | exact hp | skip
   cases d<;>simp only[RT] at h
   exact(hd ⟨_,rfl⟩).elim
  obtain⟨k1,k2⟩:=wH (ι':=ι') (S':=S') hv h
  have e:d.strip=d.cv:=by cases d<;>first | rfl | exact(hd ⟨_,rfl⟩).elim
  refine⟨?_,by rw[e]; exact k2⟩
  rw[e]
  have:∀ c:DV,c.gP=true→(∀ l,c ≠ .ee l)→c.pure=true:=fun c h hn=>by cases c<;>first | exact h | exact(hn _ rfl).elim
  refine this _ k1 fun l hl => ?_
  cases d<;>simp only[DV.cv] at hl<;>first | (cases hl; done) | exact hd ⟨_,rfl⟩
theorem FA {f:Operand} {args:Array Operand} {argTypes:Array TypeId} {g:FuncId} {fs cs xs rest ts:List TV} {kp off:Nat} {Q:TV→List TV→Prop} (hop:o.op = .call { callee := .value f,args,argTypes }) (hh:ty.h o≠1) (hf:fD te f=some (.fn g fs cs)) (ha:lH te args.toList=some xs)
  (hl:fs++xs++cs = .ptr kp off::rest) (hp:rest.all eC=true) (UG:tS[kp]? = some (.cells ts)) (sV:ts.all tq=true) (hs:vY call g (.ptr 0 off::aX (gp tt fs argTypes).tail rest) ts Q) (hq:∀ v qy,Q v qy→H8 v=true∧qy.all tq=true) :
  Does P ty aD call yf B o nT te tS true fun v bT bV ft=>∃ qy,Q v qy∧bT=te∧bV=tS.set kp (.cells qy)∧ft=⟨some [kp],true⟩:=by
 intro ι w env S aA hR hB hw hT Px hS
 obtain⟨xI,jw,Jc,k1,k2,k3⟩:=jr hR.env hf ha
 obtain⟨gE,ds,k6,m2,m3⟩:=hR.cells kp ts UG
 rw[hl] at k3
 obtain⟨d0,m0,hm0,FN,FP⟩:=aj k3
 have FU:d0 = .ptr gE off:=by
  cases d0<;>simp only[RT] at FN
  obtain⟨e1,e2⟩:=FN
  rw[k6] at e1
  cases e1
  rw[e2]
 subst FU
 obtain⟨p1,p2⟩:=iF (ts:=(gp tt fs argTypes).tail) (ι':=gQ 0) (S':=[.cells (ds.map DV.aI)]) hp FP
 obtain⟨c1,c2⟩:=kF (ι':=gQ 0) (S':=[.cells (ds.map DV.aI)]) sV m3
 have hc:bK (gQ 0) (.ptr 0 off::aX (gp tt fs argTypes).tail rest) [.cells ts] (.ptr 0 off::m0.map DV.strip) [.cells (ds.map DV.aI)]:=by
  refine⟨aG (by simp only[RT]; exact⟨rfl,trivial⟩) p2,fun k l hk => ?_,fun k e s hk => ?_,fun k k' hk => ?_,fun i j k' hi hj => ?_,fun k b hk t ht=>by cases k with | zero=>cases hk; trivial | succ k=>simp at hk⟩
  ·cases k with
   | zero =>
    cases hk
    exact⟨0,_,rfl,rfl,c2⟩
   | succ k=>simp at hk
  ·cases k<;>simp at hk
  ·by_cases h0:k=0
   ·subst h0; exact⟨_,rfl,fun e=>by cases e⟩
   ·simp only[gQ,h0,if_false] at hk; cases hk
  ·by_cases xH:i=0<;>by_cases Jh:j=0
   ·rw[xH,Jh]
   ·simp only[gQ,Jh,if_false] at hj; cases hj
   ·simp only[gQ,xH,if_false] at hi; cases hi
   ·simp only[gQ,xH,if_false] at hi; cases hi
 obtain⟨d,S1,ι1,v,qy,k',eE,n1,n2,n3,n4,n5,n6,n7,n8,n9,n10⟩:=hs _ _ _ hc
 simp only[gQ,if_true,Option.some.injEq] at n5
 subst n5
 obtain⟨q1,q2⟩:=hq _ _ n10
 obtain⟨r1,r2⟩:=Fv (ι':=ι) (S':=S.set gE (.cells (eE.map DV.aI))) q1 n2
 obtain⟨r3,r4⟩:=kF (ι':=ι) (S':=S.set gE (.cells (eE.map DV.aI))) q2 n7
 have aaE:∃ T,S1 = .cells eE::T:=by
  cases S1 with
  | nil=>simp at n6
  | cons a T=>simp only[List.getElem?_cons_zero,Option.some.injEq] at n6; exact⟨T,by rw[n6]⟩
 obtain⟨T,rfl⟩:=aaE
 have hid:gE<S.length:=(List.getElem?_eq_some_iff.1 m2).1
 have oa:∀ k0,k0≠gE→(S.set gE (.cells (eE.map DV.aI)))[k0]? = S[k0]? := fun k0 h=>by rw[List.getElem?_set,if_neg fun e=>h e.symm]
 have hkp:∀ k,k≠kp→∀ k0,ι k=some k0→k0≠gE:=fun k hk k0 h0 e=>hk (hR.inj _ _ _ (e▸h0) k6)
 have K:jg ι S ι (S.set gE (.cells (eE.map DV.aI))) fun _=>False:=fun k k0 _ hk=>⟨hk,by
  by_cases Jg:k0=gE
  ·subst Jg
   exact tH (by rw[m2]; simp) (by rw[m2]; simp)
  ·exact dM (oa k0 Jg)⟩
 have YC:((xI++Jc++jw).map DV.strip).all DV.pure=false:=by rw[hm0]; rfl
 have ho:vP call g (xI++Jc++jw) S=some (gE,d.strip,eE.map DV.aI):=by
  rw[hm0]
  simp only[vP,m2,p1,c1,Bool.and_self,if_true,n1,r1,r3]
 refine⟨d.strip,S.set gE (.cells (eE.map DV.aI)),ι,w,v,te,tS.set kp (.cells qy),⟨some [gE],true⟩,⟨some [kp],true⟩,fun hd=>(by cases hd),fun _ => ?_,⟨fun e=>e,fun l hl => ?_⟩,fun l m hl hm j hj => ?_,?_,r2,hw,fun _ _ _=>rfl,⟨fun k0 hl hno=>oa k0 fun e=>hno _ (e▸k6),fun k k0 hk => .inl ⟨k,hk⟩,fun _ _=>rfl⟩,fun k hk => ?_,⟨by simp,fun j hj dN => ?_⟩,qy,n10,rfl,rfl,rfl⟩
 ·simp only[aC,hop,k1,k2,if_neg hh,YC,Bool.false_eq_true,if_false,ho]
 ·cases hl
  exact⟨[gE],rfl,fun j hj=>⟨kp,by simp,by simp only[List.mem_singleton] at hj; rw[hj]; exact hw _ _ k6⟩⟩
 ·cases hm
  simp only[List.mem_singleton] at hj
  exact .inr ⟨kp,hj▸k6⟩
 ·refine⟨aY K _ _ hR.env,fun k l hk => ?_,fun k e s hk t ht => ?_,fun k k0 hk => ?_,hR.inj,fun k b hk t ht=>by
   rw[List.getElem?_set] at hk
   split at hk
   ·split at hk<;>cases hk
    trivial
   ·rename_i e1
    rw[oa t (hkp k (fun e=>e1 e.symm) t ht)]; exact hR.mp k b hk t ht⟩
  ·rw[List.getElem?_set] at hk
   split at hk
   ·rename_i e1
    subst e1
    split at hk
    ·cases hk
     exact⟨gE,_,k6,by rw[List.getElem?_set,if_pos rfl,if_pos hid],r4⟩
    ·cases hk
   ·rename_i e1
    obtain⟨k0,Jk,q1,q2,q3⟩:=hR.cells k l hk
    exact⟨k0,Jk,q1,by rw[oa k0 (hkp k (Ne.symm e1) k0 q1)]; exact q2,aY K _ _ q3⟩
  ·rw[List.getElem?_set] at hk
   split at hk
   ·split at hk<;>cases hk
   ·obtain⟨n,q1⟩:=hR.own k e s hk t ht
    exact⟨n,(K k t (fun e=>e) ht).2.1 _ _ _ q1⟩
  ·rw[List.getElem?_set]
   split
   ·rename_i e1
    subst e1
    exact⟨_,if_pos (List.getElem?_eq_some_iff.1 UG).1,fun e=>by cases e⟩
   ·exact hR.uE k k0 hk
 ·rw[List.getElem?_set]
  split
  ·rename_i e1
   subst e1
   exact⟨_,if_pos (List.getElem?_eq_some_iff.1 UG).1⟩
  ·exact hB k hk
 ·rw[oa j]
  ·exact dN
  ·intro e
   rw[e,m2] at dN
   cases dN
end Go.Tv
end
