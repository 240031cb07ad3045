import Derived.Test.YtedcgbkilmlbhaaPk03
section
namespace Go.Tv
open Go Go.Di
def jL:List TB→List TB
 | []=>[]
 | b::l=>match jL l,b with
  | [],.none=>[]
  | l',b=>b::l'
theorem Ca:∀ tS:List TB,∃ n,tS=jL tS++List.replicate n .none
 | []=>⟨0,rfl⟩
 | b::l=>by
  obtain⟨n,h⟩:=Ca l
  simp only[jL]
  split
  ·rename_i e
   rw[e] at h
   exact⟨n+1,by rw[h]; rfl⟩
  ·exact⟨n,by rw[List.cons_append,← h]⟩
inductive tV:List TV→List TV→Prop
 | nil:tV [] []
 | unk {v:TV} {l m:List TV}:tV l m→tV (.unk::l) (v::m)
 | same {v:TV} {l m:List TV}:tV l m→tV (v::l) (v::m)
 | no {t:TT} {x:List t.den} {ap:Ap} {l m:List TV}:tV l m→tV (.sl t x .no::l) (.sl t x ap::m)
 | nY {t:TT} {g:Nat} {l m:List TV}:tV l m→tV (.sl t [] (.nY g)::l) (.sl t [] .full::m)
 | gl {t:TT} {ap:Ap} {l m:List TV}:tV l m→tV (.sl t [] ap::l) (.gl::m)
 | agg {a b l m:List TV}:tV a b→tV l m→tV (.agg a::l) (.agg b::m)
theorem tV.refl:∀ l:List TV,tV l l
 | [] => .nil
 | _::l => .same (tV.refl l)
mutual
def refs:TV→List Nat
 | .sl _ _ (.nY g)=>[g]
 | .ptr id _=>[id]
 | .mp id=>[id]
 | .so g _=>[g]
 | .sp g _ _ _=>[g]
 | .agg l=>fN l
 | .fB l=>fN l
 | .fn _ a b=>fN a++fN b
 | _=>[]
def fN:List TV→List Nat
 | []=>[]
 | a::l=>refs a++fN l
end
inductive zI:List TB→List TB→Prop
 | nil {l:List TB}:zI [] l
 | none {b:TB} {l m:List TB}:zI l m→zI (.none::l) (b::m)
 | own {e s:Nat} {l m:List TB}:zI l m→zI (.own e s::l) (.own e s::m)
 | new {e s:Nat} {l:List TB}:zI l []→zI (.own e s::l) []
 | cells {a b:List TV} {l m:List TB}:tV a b→zI l m→zI (.cells a::l) (.cells b::m)
 | map {kt:TT} {c:List kt.den} {l m:List TB}:zI l m→zI (.map kt c::l) (.map kt c::m)
 | rows {t:TT} {e:Nat} {c:List t.den} {z:Bool} {l m:List TB}:zI l m→zI (.rows t e c z::l) (.rows t e c z::m)
def lu (tS:List TB) (k:Nat):Bool :=
 match tS[k]? with
 | some .none | none=>false
 | _=>true
def Ar:List TB→List Nat
 | []=>[]
 | .cells a::l=>fN a++Ar l
 | _::l=>Ar l
def okB (te:List TV) (tS:List TB):Bool:=(fN te++Ar tS).all (lu tS)
variable {P:Program} {ty:eS} {tt:TypeId→Option TT} {ι ι' w:jR} {S S':ak} {te kY:List TV} {env:List DV} {tS iu:List TB} {aD:bq} {call:bg} {yf:dF} {o:Oper} {ay nT:Nat} {B:List Nat} {r:TR} {ops:Array Oper}
theorem FW {l m:List TV} (h:tV l m):∀ {ds:List DV},cG ι S m ds→cG ι S l ds:=by
 induction h with
 | nil=>exact id
 | unk _ ih=>intro ds hd; obtain⟨d,m',rfl,h1,h2⟩:=aj hd; exact aP (by simp only[RT]) (ih h2)
 | same _ ih=>intro ds hd; obtain⟨d,m',rfl,h1,h2⟩:=aj hd; exact aP h1 (ih h2)
 | no _ ih =>
  intro ds hd
  obtain⟨d,m',rfl,h1,h2⟩:=aj hd
  refine aP ?_ (ih h2)
  cases d<;>simp only[RT] at h1 ⊢
  exact⟨h1.1,trivial⟩
 | nY _ ih =>
  intro ds hd
  obtain⟨d,m',rfl,h1,h2⟩:=aj hd
  refine aP ?_ (ih h2)
  cases d<;>simp only[RT] at h1 ⊢
  exact⟨h1.1,.inl ⟨h1.2.1,h1.2.2,iI h1.1⟩⟩
 | gl _ ih =>
  rename_i ap _ _ _
  intro ds hd
  obtain⟨d,m',rfl,h1,h2⟩:=aj hd
  refine aP ?_ (ih h2)
  cases d<;>simp only[RT] at h1 ⊢
  obtain⟨rfl,rfl,rfl⟩:=h1
  refine⟨trivial,?_⟩
  cases ap with
  | no=>trivial
  | full=>exact⟨rfl,rfl⟩
  | nY g=>exact .inl ⟨rfl,rfl,rfl⟩
 | agg _ _ I2 KE =>
  intro ds hd
  obtain⟨d,m',rfl,h1,h2⟩:=aj hd
  refine aP ?_ (KE h2)
  cases d<;>simp only[RT] at h1 ⊢
  exact I2 h1
mutual
theorem QS:∀ (v:TV) (d:DV),(∀ k∈refs v,ι' k=ι k)→RT ι S v d→RT ι' S v d
 | .unk,_,_,_=>by simp only[RT]
 | .val _,d,_,k=>by cases d<;>simp only[RT] at k ⊢; exact k
 | .gl,d,_,k=>by cases d<;>simp only[RT] at k ⊢; exact k
 | .agg l,d,h,k=>by cases d<;>simp only[RT] at k ⊢; exact kQ l _ h k
 | .fB l,d,h,k=>by cases d<;>simp only[RT] at k ⊢; exact kQ l _ h k
 | .sl t l .no,d,_,k=>by cases d<;>simp only[RT] at k ⊢; exact k
 | .sl t l .full,d,_,k=>by cases d<;>simp only[RT] at k ⊢; exact k
 | .sl t l (.nY g),d,h,k=>by
  cases d<;>simp only[RT,qq] at k ⊢
  rw[h g (by simp[refs])]
  exact k
 | .ptr id off,d,h,k=>by
  cases d<;>simp only[RT] at k ⊢
  rw[h id (by simp[refs])]
  exact k
 | .dB t l i off,d,_,k=>by cases d<;>simp only[RT] at k ⊢; exact k
 | .mp id,d,h,k=>by
  cases d<;>simp only[RT] at k ⊢
  rw[h id (by simp[refs])]
  exact k
 | .so g t,d,h,k=>by
  cases d<;>simp only[RT] at k ⊢
  rw[h g (by simp[refs])]
  exact k
 | .sp g t i off,d,h,k=>by
  cases d<;>simp only[RT] at k ⊢
  rw[h g (by simp[refs])]
  exact k
 | .fn f a b,d,h,k=>by
  cases d<;>simp only[RT] at k ⊢
  exact⟨k.1,kQ a _ (fun j hj=>h j (by simp[refs,hj])) k.2.1,kQ b _ (fun j hj=>h j (by simp[refs,hj])) k.2.2⟩
theorem kQ:∀ (l:List TV) (m:List DV),(∀ k∈fN l,ι' k=ι k)→cG ι S l m→cG ι' S l m
 | [],m,_,k=>by rw[aM k]; exact bL
 | a::l,m,h,k=>by
  obtain⟨d,m',rfl,h1,h2⟩:=aj k
  exact aP (QS a d (fun j hj=>h j (by simp[fN,hj])) h1) (kQ l m' (fun j hj=>h j (by simp[fN,hj])) h2)
end
theorem wR {l m:List TB} (h:zI l m):∀ {k:Nat} {b:TB},l[k]? = some b→b = .none∨(∃ e s,b = .own e s∧(m[k]? = some (.own e s)∨m[k]? = none))∨(∃ a c,b = .cells a∧m[k]? = some (.cells c)∧tV a c)∨(m[k]? = some b∧(∀ l,b ≠ .cells l)∧∀ e s,b ≠ .own e s):=by
 induction h with
 | nil=>intro k b hb; simp at hb
 | none _ ih =>
  intro k b hb
  cases k with
  | zero=>simp only[List.getElem?_cons_zero,Option.some.injEq] at hb; exact .inl hb.symm
  | succ k=>simpa using ih (k:=k) (by simpa using hb)
 | own _ ih =>
  intro k b hb
  cases k with
  | zero=>simp only[List.getElem?_cons_zero,Option.some.injEq] at hb; subst hb; exact .inr (.inl ⟨_,_,rfl,.inl rfl⟩)
  | succ k=>simpa using ih (k:=k) (by simpa using hb)
 | new _ ih =>
  intro k b hb
  cases k with
  | zero=>simp only[List.getElem?_cons_zero,Option.some.injEq] at hb; subst hb; exact .inr (.inl ⟨_,_,rfl,.inr rfl⟩)
  | succ k=>simpa using ih (k:=k) (by simpa using hb)
 | cells hl _ ih =>
  intro k b hb
  cases k with
  | zero=>simp only[List.getElem?_cons_zero,Option.some.injEq] at hb; subst hb; exact .inr (.inr (.inl ⟨_,_,rfl,rfl,hl⟩))
  | succ k=>simpa using ih (k:=k) (by simpa using hb)
 | map _ ih =>
  intro k b hb
  cases k with
  | zero=>simp only[List.getElem?_cons_zero,Option.some.injEq] at hb; subst hb; exact .inr (.inr (.inr ⟨rfl,by simp,by simp⟩))
  | succ k=>simpa using ih (k:=k) (by simpa using hb)
 | rows _ ih =>
  intro k b hb
  cases k with
  | zero=>simp only[List.getElem?_cons_zero,Option.some.injEq] at hb; subst hb; exact .inr (.inr (.inr ⟨rfl,by simp,by simp⟩))
  | succ k=>simpa using ih (k:=k) (by simpa using hb)
theorem A1 {k:Nat} {a:List TV}:∀ {tS:List TB} {j:Nat},tS[j]? = some (.cells a)→k∈fN a→k∈Ar tS
 | [],_,h,_=>by simp at h
 | b::l,0,h,hk=>by
  simp only[List.getElem?_cons_zero,Option.some.injEq] at h
  subst h
  simp[Ar,hk]
 | b::l,j+1,h,hk=>by
  have:=A1 (tS:=l) (j:=j) (by simpa using h) hk
  cases b<;>simp[Ar,this]
theorem D9 (h:bS ι te tS env S) (hl:tV kY te) (hb:zI iu tS) (j8:okB kY iu=true) (hB:lJ B iu):∃ ι1,bS ι1 kY iu env S∧Fr B ι S ι1 S∧(∀ k,ι1 k=if lu iu k then ι k else none):=by
 simp only[okB,List.all_append,Bool.and_eq_true,List.all_eq_true] at j8
 refine⟨fun k=>if lu iu k then ι k else none,⟨?_,fun k l hk => ?_,fun k e s hk t ht => ?_,fun k k' hk => ?_,fun i j k' hi hj => ?_,fun k b hk t ht => ?_⟩,⟨fun _ _ _=>rfl,fun k k' hk => ?_,fun k hk => ?_⟩,fun _=>rfl⟩
 ·refine kQ _ _ (fun k hk => ?_) (FW hl h.env)
  rw[if_pos (j8.1 k hk)]
 ·rcases wR hb hk with e | ⟨_,_,e,-⟩ | ⟨a,c,e,h1,h2⟩ | ⟨_,e,-⟩
  ·cases e
  ·cases e
  rotate_left
  ·exact absurd rfl (e _)
  ·cases e
   obtain⟨k',ds,n1,n2,n3⟩:=h.cells k c h1
   refine⟨k',ds,?_,n2,kQ _ _ (fun j hj => ?_) (FW h2 n3)⟩
   ·have:lu iu k=true:=by simp only[lu,hk]
    rw[if_pos this]; exact n1
   ·rw[if_pos (j8.2 j (A1 hk hj))]
 ·split at ht
  ·rcases wR hb hk with e' | ⟨_,_,e',h1⟩ | ⟨a,c,e',h1,h2⟩ | ⟨_,-,e'⟩
   rotate_left 3
   ·exact absurd rfl (e' _ _)
   ·cases e'
   ·cases e'
    rcases h1 with h1 | h1
    ·exact h.own k e s h1 t ht
    ·obtain⟨b,h2,-⟩:=h.sw k t ht
     rw[h1] at h2; cases h2
   ·cases e'
  ·cases ht
 ·split at hk
  ·rename_i gM
   unfold lu at gM
   split at gM
   ·cases gM
   ·cases gM
   ·rename_i b Lc xe
    cases hx:iu[k]? with
    | none=>exact(xe hx).elim
    | some b=>exact⟨b,rfl,fun e=>Lc (by rw[hx,e])⟩
  ·cases hk
 ·split at hi
  ·split at hj
   ·exact h.inj i j k' hi hj
   ·cases hj
  ·cases hi
 ·split at ht
  ·rcases wR hb hk with e' | ⟨_,_,e',-⟩ | ⟨_,_,e',-⟩ | ⟨h1,-⟩
   ·subst e'; trivial
   ·subst e'; trivial
   ·subst e'; trivial
   ·exact h.mp k _ h1 t ht
  ·cases ht
 ·split at hk
  ·exact .inl ⟨k,hk⟩
  ·cases hk
 ·obtain⟨l,h1⟩:=hB k hk
  have:lu iu k=true:=by simp only[lu,h1]
  simp only[this,if_true]
theorem EA (hb:zI iu tS) (hB:lJ B tS) (h:∀ k,k∈B→lu iu k=true):lJ B iu:=by
 intro k hk
 have h1:=h k hk
 obtain⟨l,h2⟩:=hB k hk
 unfold lu at h1
 split at h1
 ·cases h1
 ·cases h1
 ·rename_i b Lc xe
  cases hx:iu[k]? with
  | none=>exact(xe hx).elim
  | some b =>
   rcases wR hb hx with e | ⟨_,_,e,h3⟩ | ⟨a,c,e,-,-⟩ | ⟨h3,e,-⟩
   ·exact(Lc (by rw[hx,e])).elim
   ·rw[h2] at h3; rcases h3 with h3 | h3<;>cases h3
   ·exact⟨a,by rw[e]⟩
   ·rw[h2] at h3; cases h3; exact absurd rfl (e _)
theorem D8 (h:bS ι te tS env S):bS ι te (jL tS) env S:=by
 obtain⟨n,hn⟩:=Ca tS
 have hT:∀ (k:Nat) (b:TB),b ≠ .none→(tS[k]? = some b↔(jL tS)[k]? = some b):=by
  intro k b hb
  conv=>lhs; rw[hn]
  rw[List.getElem?_append]
  split
  ·rfl
  ·rename_i hlt
   rw[List.getElem?_eq_none (l:=jL tS) (by omega),List.getElem?_replicate]
   split
   ·exact⟨fun e=>by cases e; exact(hb rfl).elim,fun e=>by cases e⟩
   ·exact Iff.rfl
 refine⟨h.env,fun k l hk=>h.cells k l ((hT _ _ (fun e=>by cases e)).2 hk),fun k e s hk=>h.own k e s ((hT _ _ (fun e=>by cases e)).2 hk),fun k k' hk => ?_,h.inj,fun k b hk t ht=>by
  cases b with
  | none=>trivial
  | _=>exact h.mp k _ ((hT _ _ (fun e=>by cases e)).2 hk) t ht⟩
 obtain⟨b,h1,h2⟩:=h.sw k k' hk
 exact⟨b,(hT _ _ h2).1 h1,h2⟩
theorem Ey (hB:lJ B tS):lJ B (jL tS):=by
 intro k hk
 obtain⟨l,h1⟩:=hB k hk
 obtain⟨n,hn⟩:=Ca tS
 refine⟨l,?_⟩
 rw[hn,List.getElem?_append] at h1
 split at h1
 ·exact h1
 ·rw[List.getElem?_replicate] at h1
  split at h1<;>cases h1
section
variable (P:Program) (ty:eS) (aD:bq) (call:bg) (yf:dF) (B:List Nat) (L:Nat) (fn:FuncId) (gJ:Bool)
def WT (c:Code) (te:List TV) (tS:List TB) (Q:DX→List TV→List TB→Prop):Prop :=
 ∀ ι env S,bS ι te tS env S→lJ B tS→∃ e az S' ι' bT bU,bO P ty aD call yf L fn gJ c env S=some (e,az,S')∧bS ι' bT bU az S'∧lJ B bU∧Fr B ι S ι' S'∧Nn S.length S S'∧Q e bT bU
end
section
variable {L:Nat} {fn:FuncId} {gJ:Bool} {a b c:Code} {Q Q':DX→List TV→List TB→Prop}
theorem WT.mono (h:WT P ty aD call yf B L fn gJ c te tS Q) (hq:∀ e te tS,Q e te tS→Q' e te tS):WT P ty aD call yf B L fn gJ c te tS Q':=by
 intro ι env S hR hB
 obtain⟨e,az,S',ι',bT,bU,h1,h2,h3,h4,h5,h6⟩:=h ι env S hR hB
 exact⟨e,az,S',ι',bT,bU,h1,h2,h3,h4,h5,hq _ _ _ h6⟩
theorem Qn (h:Q .normal te tS):WT P ty aD call yf B L fn gJ .skip te tS Q:=fun ι env S hR hB=>⟨.normal,env,S,ι,te,tS,rfl,hR,hB,Fr.refl _ _ _,dZ _ _,h⟩
theorem Nd {l:Nat} (h:Q .normal te tS):WT P ty aD call yf B L fn gJ (.label l) te tS Q:=fun ι env S hR hB=>⟨.normal,env,S,ι,te,tS,rfl,hR,hB,Fr.refl _ _ _,dZ _ _,h⟩
theorem Qq {id:Nat} (h:Q (.exit id) te tS):WT P ty aD call yf B L fn gJ (.exit id) te tS Q:=fun ι env S hR hB=>⟨.exit id,env,S,ι,te,tS,rfl,hR,hB,Fr.refl _ _ _,dZ _ _,h⟩
theorem Vq (h:Q .ret te tS):WT P ty aD call yf B L fn gJ .ret te tS Q:=fun ι env S hR hB=>⟨.ret,env,S,ι,te,tS,rfl,hR,hB,Fr.refl _ _ _,dZ _ _,h⟩
theorem M8 (h:WT P ty aD call yf B L fn gJ c te tS Q):WT P ty aD call yf B L fn gJ (.scope c) te tS Q:=fun ι env S hR hB=>by
 obtain⟨e,az,S',ι',bT,bU,h1,h2⟩:=h ι env S hR hB
 exact⟨e,az,S',ι',bT,bU,by simp only[bO,h1],h2⟩
theorem Mr (h:WT P ty aD call yf B L fn gJ a te tS fun e te tS=>match e with | .normal=>WT P ty aD call yf B L fn gJ b te tS Q | e=>Q e te tS):WT P ty aD call yf B L fn gJ (.seq a b) te tS Q:=by
 intro ι env S hR hB
 obtain⟨e,az,S',ι',bT,bU,h1,h2,h3,h4,h5,h6⟩:=h ι env S hR hB
 cases e with
 | normal =>
  obtain⟨e,mm,qP,ι'',qS,qT,k1,k2,k3,k4,k5,k6⟩:=h6 ι' az S' h2 h3
  exact⟨e,mm,qP,ι'',qS,qT,by simp only[bO,h1,k1],k2,k3,h4.trans k4,oN h5 k5,k6⟩
 | exit id=>exact⟨_,az,S',ι',bT,bU,by simp only[bO,h1],h2,h3,h4,h5,h6⟩
 | ret=>exact⟨_,az,S',ι',bT,bU,by simp only[bO,h1],h2,h3,h4,h5,h6⟩
theorem Qr {x:Operand} {t:Bool} (hx:eZ te x=some (.val (.bool t))) (h1:t=true→WT P ty aD call yf B L fn gJ a te tS Q) (h2:t=false→WT P ty aD call yf B L fn gJ b te tS Q):WT P ty aD call yf B L fn gJ (.cond x a b) te tS Q:=by
 intro ι env S hR hB
 obtain⟨d,k1,k2⟩:=aS hR.env hx
 cases d<;>simp only[RT] at k2
 subst k2
 cases t with
 | true =>
  obtain⟨e,az,S',ι',bT,bU,m1,m2⟩:=h1 rfl ι env S hR hB
  exact⟨e,az,S',ι',bT,bU,by simp only[bO,k1,m1],m2⟩
 | false =>
  obtain⟨e,az,S',ι',bT,bU,m1,m2⟩:=h2 rfl ι env S hR hB
  exact⟨e,az,S',ι',bT,bU,by simp only[bO,k1,m1],m2⟩
theorem Ng {id:Nat} (h:WT P ty aD call yf B L fn gJ c te tS fun e te tS=>match e with | .exit gf=>Q (if gf=id then .normal else .exit gf) te tS | e=>Q e te tS):WT P ty aD call yf B L fn gJ (.block id c) te tS Q:=by
 intro ι env S hR hB
 obtain⟨e,az,S',ι',bT,bU,h1,h2,h3,h4,h5,h6⟩:=h ι env S hR hB
 cases e with
 | normal=>exact⟨_,az,S',ι',bT,bU,by simp only[bO,h1],h2,h3,h4,h5,h6⟩
 | exit gf=>exact⟨_,az,S',ι',bT,bU,by simp only[bO,h1],h2,h3,h4,h5,h6⟩
 | ret=>exact⟨_,az,S',ι',bT,bU,by simp only[bO,h1],h2,h3,h4,h5,h6⟩
theorem HL (hl:tV kY te) (hb:zI iu tS) (j8:okB kY iu=true) (hB:∀ k,k∈B→lu iu k=true) (h:WT P ty aD call yf B L fn gJ c kY iu Q):WT P ty aD call yf B L fn gJ c te tS Q:=by
 intro ι env S hR Xe
 have Uj:=EA hb Xe hB
 obtain⟨ι1,h1,h2,-⟩:=D9 hR hl hb j8 Uj
 obtain⟨e,az,S',ι',bT,bU,m1,m2,m3,m4,m5⟩:=h ι1 env S h1 Uj
 exact⟨e,az,S',ι',bT,bU,m1,m2,m3,h2.trans m4,m5⟩
structure Fits (B:List Nat) (kY:List TV) (iu:List TB) (te:List TV) (tS:List TB):Prop where
 l:tV kY te
 b:zI iu tS
 ok:okB kY iu=true
 base:∀ k,k∈B→lu iu k=true
theorem Qo {σ:Type} (f:σ→List TV×List TB) (eE:σ→Prop) (m:σ→Nat) (s0:σ) (h0:Fits B (f s0).1 (f s0).2 te tS) (hg:eE s0) (hm:m s0<L)
  (hstep:∀ s,eE s→WT P ty aD call yf B L fn gJ c (f s).1 (f s).2 fun e te tS=>match e with | .normal=>∃ s',Fits B (f s').1 (f s').2 te tS∧eE s'∧m s'<m s | e=>Q e te tS):WT P ty aD call yf B L fn gJ (.loop c) te tS Q:=by
 refine HL h0.l h0.b h0.ok h0.base ?_
 have key:∀ n s,eE s→m s<n→∀ ι env S,bS ι (f s).1 (f s).2 env S→lJ B (f s).2→∃ e az S' ι' bT bU,jN (bO P ty aD call yf L fn gJ c) n env S=some (e,az,S')∧bS ι' bT bU az S'∧lJ B bU∧Fr B ι S ι' S'∧Nn S.length S S'∧Q e bT bU:=by
  intro n
  induction n with
  | zero=>intro s _ h; omega
  | succ n ih =>
   intro s hs hn ι env S hR hB
   obtain⟨e,az,S',ι',bT,bU,h1,h2,h3,h4,h5,h6⟩:=hstep s hs ι env S hR hB
   cases e with
   | normal =>
    obtain⟨s',hf,jF,hlt⟩:=h6
    have Uj:=EA hf.b h3 hf.base
    obtain⟨ι1,k1,k2,-⟩:=D9 h2 hf.l hf.b hf.ok Uj
    obtain⟨e,mm,qP,ι'',qS,qT,m1,m2,m3,m4,m5,m6⟩:=ih s' jF (by omega) ι1 az S' k1 Uj
    exact⟨e,mm,qP,ι'',qS,qT,by simp only[jN,h1,m1],m2,m3,(h4.trans k2).trans m4,oN h5 m5,m6⟩
   | exit id=>exact⟨_,az,S',ι',bT,bU,by simp only[jN,h1],h2,h3,h4,h5,h6⟩
   | ret=>exact⟨_,az,S',ι',bT,bU,by simp only[jN,h1],h2,h3,h4,h5,h6⟩
 intro ι env S hR hB
 obtain⟨e,az,S',ι',bT,bU,h1,h2⟩:=key L s0 hg hm ι env S hR hB
 exact⟨e,az,S',ι',bT,bU,by simp only[bO]; exact h1,h2⟩
theorem Nc {id:Nat} (h:WL P ty aD call yf B ops 0 te tS fun te tS=>Q .normal te (jL tS)):WT P ty aD call yf B L fn gJ (.region id ops false) te tS Q:=by
 intro ι env S hR hB
 obtain⟨az,S',ι',bT,bU,h1,h2,h3,h4,h5,h6⟩:=h ι env S hR hB
 refine⟨.normal,az,S',ι',bT,jL bU,?_,D8 h2,Ey h3,h4,h5,h6⟩
 rw[List.drop_zero] at h1
 simp only[bO,lD,Bool.false_eq_true,if_false,h1,Option.map_some]
theorem M9 {id:Nat} (hd:iE ops (Region.before ops)=true) (hl:qz P ops=false) (h:WQ P ty aD call yf ops tS 0 te fun te=>Q .normal te tS):WT P ty aD call yf B L fn gJ (.region id ops true) te tS Q:=by
 intro ι env S hR hB
 obtain⟨az,bT,h1,h2,h3⟩:=h ι env S hR
 refine⟨.normal,az,S,ι,bT,tS,?_,h2,hB,Fr.refl _ _ _,dZ _ _,h3⟩
 rw[List.drop_zero] at h1
 simp only[qz,Bool.or_eq_false_iff] at hl
 simp only[bO,lD,if_true,hd,hl.2,Bool.not_true,Bool.false_eq_true,if_false,h1,Option.map_some]
theorem Nf {id:Nat} (hd:iE ops (Region.before ops)=true) (hn:qz P ops=true) (h:WD P ty aD call yf B ops 0 te (tS++List.replicate ops.size .none) [] fun te tS=>Q .normal te (jL tS)):WT P ty aD call yf B L fn gJ (.region id ops true) te tS Q:=by
 intro ι env S hR hB
 have jG:=QY hR ops.size ops.size
 obtain⟨w,hw⟩:=FH jG
 have hB':lJ B (tS++List.replicate ops.size .none):=fun k hk=>by
  obtain⟨l,h1⟩:=hB k hk
  exact⟨l,by rw[List.getElem?_append_left (List.getElem?_eq_some_iff.1 h1).1]; exact h1⟩
 obtain⟨az,S',xg,ι',w',bT,bU,ft,h1,h2,-,h4,h5,h6,h7,h8,h9⟩:=h ι w env (S++List.replicate ops.size .none) S.length jG hB' hw (fun j _ hj=>by
  rw[List.getElem?_append_right (by omega),List.getElem?_replicate,if_pos (by omega)])
 refine⟨.normal,az,S',ι',bT,jL bU,?_,D8 h5,Ey h6,⟨fun k' hl hno => ?_,fun k k' hk => ?_,h7.base⟩,⟨?_,fun j hj dI => ?_⟩,h9⟩
 ·rw[List.drop_zero] at h1
  simp only[bO,lD,if_true,hd,Bool.not_true,Bool.false_eq_true,if_false,Kg hn,h1,V4 h2 (by simpa using h4),Option.map_some]
 ·have e:=ext_get (n:=ops.size) hl
  rw[h7.rest k' (by obtain⟨b,e1,e2⟩:=hl; exact⟨b,e.trans e1,e2⟩) hno]
  exact e
 ·refine(h7.ours k k' hk).imp (fun e=>e) fun KL hl=>KL ?_
  obtain⟨b,e1,e2⟩:=hl
  exact⟨b,(ext_get ⟨b,e1,e2⟩).trans e1,e2⟩
 ·have:=h8.1
  rw[List.length_append] at this
  omega
 ·have hlt:=(List.getElem?_eq_some_iff.1 dI).1
  exact h8.2 j (fun i _ _=>by omega) (by rw[List.getElem?_append_left hlt]; exact dI)
end
end Go.Tv
end
section
namespace Go.Tv
open Go Go.Di
def BR:TV→Bool
 | .val v => !(v matches .tuple _)
 | .gl | .sl _ _ _=>true
 | _=>false
def eC:TV→Bool
 | .agg l=>l.all BR
 | .val _ | .gl | .sl _ _ _=>true
 | _=>false
def mj:TV→TV
 | .sl k l _ => .sl k l .no
 | .gl => .unk
 | v=>v
def iA:Option TT→TV→TV
 | some (.sl e),.gl => .sl e [] .no
 | _,.gl => .unk
 | _,.sl k l _ => .sl k l .no
 | some t,.agg l=>match t.of l with
  | some (x,[]) => .agg (t.cells x)
  | _ => .agg (l.map mj)
 | none,.agg l => .agg (l.map mj)
 | _,v=>v
def bk:List (Option TT)→List TV→List TV
 | _,[]=>[]
 | [],v::l=>iA none v::bk [] l
 | t::ts,v::l=>iA t v::bk ts l
def fR (tt:TypeId→Option TT) (fs:List TV) (argTypes:Array TypeId):List (Option TT):=fs.map (fun _=>none)++argTypes.toList.map tt
variable {P:Program} {ty:eS} {tt:TypeId→Option TT} {ι ι' w:jR} {S S':ak} {te kY:List TV} {env:List DV} {tS iu:List TB} {aD:bq} {call:bg} {yf:dF} {o:Oper} {ay nT:Nat} {B:List Nat} {r:TR} {ops:Array Oper}
mutual
theorem pQ:∀ (v:TV) (d:DV),refs v=[]→RT ι S v d→RT ι' S' v d
 | .unk,_,_,_=>by simp only[RT]
 | .val _,d,_,k=>by cases d<;>simp only[RT] at k ⊢; exact k
 | .gl,d,_,k=>by cases d<;>simp only[RT] at k ⊢; exact k
 | .agg l,d,h,k=>by cases d<;>simp only[RT] at k ⊢; exact fZ l _ h k
 | .fB l,d,h,k=>by cases d<;>simp only[RT] at k ⊢; exact fZ l _ h k
 | .sl t l .no,d,_,k=>by cases d<;>simp only[RT] at k ⊢; exact k
 | .sl t l .full,d,_,k=>by cases d<;>simp only[RT] at k ⊢; exact k
 | .sl t l (.nY g),d,h,k=>by simp[refs] at h
 | .ptr id off,d,h,k=>by simp[refs] at h
 | .dB t l i off,d,_,k=>by cases d<;>simp only[RT] at k ⊢; exact k
 | .mp id,d,h,k=>by simp[refs] at h
 | .so g t,d,h,k=>by simp[refs] at h
 | .sp g t i off,d,h,k=>by simp[refs] at h
 | .fn f a b,d,h,k=>by
  cases d<;>simp only[RT] at k ⊢
  simp only[refs,List.append_eq_nil_iff] at h
  exact⟨k.1,fZ a _ h.1 k.2.1,fZ b _ h.2 k.2.2⟩
theorem fZ:∀ (l:List TV) (m:List DV),fN l=[]→cG ι S l m→cG ι' S' l m
 | [],m,_,k=>by rw[aM k]; exact bL
 | a::l,m,h,k=>by
  obtain⟨d,m',rfl,h1,h2⟩:=aj k
  simp only[fN,List.append_eq_nil_iff] at h
  exact aP (pQ a d h.1 h1) (fZ l m' h.2 h2)
end
theorem EG {v:TV} {d:DV} (hp:BR v=true) (h:RT ι S v d):d.aG.bt=true∧RT ι' S' (mj v) d.aG:=by
 cases v<;>first | (cases hp; done) | skip
 ·cases d<;>simp only[RT] at h
  subst h
  exact⟨hp,by simp only[mj,RT,DV.aG]⟩
 ·cases d<;>simp only[RT] at h
  exact⟨rfl,by simp only[mj,RT]⟩
 ·cases d<;>simp only[RT] at h
  exact⟨rfl,by simp only[mj,RT,DV.aG]; exact⟨h.1,trivial⟩⟩
theorem vC:∀ {l:List TV} {m:List DV},l.all BR=true→cG ι S l m→(m.map DV.aG).all DV.bt=true∧cG ι' S' (l.map mj) (m.map DV.aG)
 | [],m,_,h=>by rw[aM h]; exact⟨rfl,bL⟩
 | a::l,m,hp,h=>by
  obtain⟨d,m',rfl,h1,h2⟩:=aj h
  simp only[List.all_cons,Bool.and_eq_true] at hp
  obtain⟨k1,k2⟩:=EG (ι':=ι') (S':=S') hp.1 h1
  obtain⟨k3,k4⟩:=vC hp.2 h2
  exact⟨by simp[k1] at k3 ⊢; exact k3,aP k2 k4⟩
theorem yd:∀ {t:TT} {l:List TV} {x:t.den} {r:List TV} {m:List DV},t.of l=some (x,r)→cG ι S l m→∃ c m',m=c++m'∧cG ι' S' (t.cells x) c∧cG ι S r m'
 | .int k,l,x,r,m,h,hm=>by
  simp only[TT.of] at h
  unfold ofInt at h
  split at h
  ·split at h
   ·rename_i hk
    cases h
    obtain⟨d,m',rfl,h1,h2⟩:=aj hm
    cases d<;>simp only[RT] at h1
    subst h1
    subst hk
    exact⟨[_],m',rfl,gn (by simp only[RT]),h2⟩
   ·cases h
  ·cases h
 | .bool,l,x,r,m,h,hm=>by
  simp only[TT.of] at h
  unfold ofBool at h
  split at h
  ·cases h
   obtain⟨d,m',rfl,h1,h2⟩:=aj hm
   cases d<;>simp only[RT] at h1
   subst h1
   exact⟨[_],m',rfl,gn (by simp only[RT]),h2⟩
  ·cases h
 | .str,l,x,r,m,h,hm=>by
  simp only[TT.of] at h
  unfold ofStr at h
  split at h
  ·cases h
   obtain⟨d,m',rfl,h1,h2⟩:=aj hm
   cases d<;>simp only[RT] at h1
   subst h1
   exact⟨[_],m',rfl,gn (by simp only[RT]),h2⟩
  ·cases h
 | .unit,l,x,r,m,h,hm=>by
  simp only[TT.of] at h
  cases h
  exact⟨[],m,rfl,bL,hm⟩
 | .pair a b,l,x,r,m,h,hm=>by
  simp only[TT.of] at h
  split at h
  ·rename_i x1 r1 h1
   split at h
   ·rename_i y r2 h2
    cases h
    obtain⟨c,m1,rfl,k1,k2⟩:=yd h1 hm
    obtain⟨c',m2,rfl,k3,k4⟩:=yd h2 k2
    exact⟨c++c',m2,by simp,dO k1 k3,k4⟩
   ·cases h
  ·cases h
 | .sl t,l,x,r,m,h,hm=>by
  simp only[TT.of] at h
  unfold PX at h
  split at h
  ·split at h
   ·rename_i ht
    subst ht
    cases h
    obtain⟨d,m',rfl,h1,h2⟩:=aj hm
    cases d<;>simp only[RT] at h1
    exact⟨[_],m',rfl,gn (by simp only[RT]; exact⟨h1.1,trivial⟩),h2⟩
   ·cases h
  ·cases h
   obtain⟨d,m',rfl,h1,h2⟩:=aj hm
   cases d<;>simp only[RT] at h1
   obtain⟨rfl,rfl,rfl⟩:=h1
   exact⟨[_],m',rfl,gn (by simp only[RT,dn]; exact⟨trivial,trivial⟩),h2⟩
  ·cases h
theorem jg {t:Option TT} {v:TV} {d:DV} (hp:eC v=true) (h:RT ι S v d):d.strip.pure=true∧(∀ l,d ≠ .fB l)∧RT ι' S' (iA t v) d.strip:=by
 cases v with
 | agg l =>
  cases d<;>simp only[RT] at h
  rename_i m
  obtain⟨k1,k2⟩:=vC (ι':=ι') (S':=S') hp h
  refine⟨k1,fun _ e=>(by cases e),?_⟩
  cases t with
  | none=>simp only[iA,RT,DV.strip,DV.cA]; exact k2
  | some t =>
   have e:iA (some t) (.agg l)=match t.of l with | some (x,[]) => .agg (t.cells x) | _ => .agg (l.map mj):=by cases t<;>rfl
   rw[e]
   split
   ·rename_i x ho
    obtain⟨c,m',rfl,n1,n2⟩:=As ho h
    rw[aM n2,List.append_nil]
    simp only[RT,DV.strip,DV.cA]
    exact mE n1
   ·simp only[RT,DV.strip,DV.cA]; exact k2
 | val u =>
  cases d<;>simp only[RT] at h
  rename_i u'
  subst h
  refine⟨rfl,fun _ e=>(by cases e),?_⟩
  have e:iA t (.val u') = .val u':=by cases t with | none=>rfl | some t=>cases t<;>rfl
  rw[e]
  simp only[RT,DV.strip,DV.cA]
 | gl =>
  cases d<;>simp only[RT] at h
  obtain⟨rfl,rfl,rfl⟩:=h
  refine⟨rfl,fun _ e=>(by cases e),?_⟩
  cases t with
  | none=>simp only[iA,RT]
  | some t =>
   cases t with
   | sl e=>simp only[iA,RT,DV.strip,DV.cA,dn]; exact⟨trivial,trivial⟩
   | _=>simp only[iA,RT]
 | sl k l ap =>
  cases d<;>simp only[RT] at h
  refine⟨rfl,fun _ e=>(by cases e),?_⟩
  have e:iA t (.sl k l ap) = .sl k l .no:=by cases t with | none=>rfl | some t=>cases t<;>rfl
  rw[e]
  simp only[RT,DV.strip,DV.cA]
  exact⟨h.1,trivial⟩
 | _=>cases hp
theorem rM {t:Option TT} {v:TV} {d:DV} (hp:eC v=true) (h:RT ι S v d):RT ι' S' (iA t v) d:=by
 have n1:∀ {l:List TV} {m:List DV},l.all BR=true→cG ι S l m→cG ι' S' (l.map mj) m:=by
  intro l
  induction l with
  | nil=>intro m _ h; rw[aM h]; exact bL
  | cons a l ih =>
   intro m hp h
   obtain⟨d,m',rfl,h1,h2⟩:=aj h
   simp only[List.all_cons,Bool.and_eq_true] at hp
   refine aP ?_ (ih hp.2 h2)
   cases a<;>first | (cases hp.1; done) | skip
   ·cases d<;>simp only[RT] at h1
    simp only[mj,RT]; exact h1
   ·simp only[mj,RT]
   ·cases d<;>simp only[RT] at h1
    simp only[mj,RT]; exact⟨h1.1,trivial⟩
 cases v with
 | agg l =>
  cases d<;>simp only[RT] at h
  rename_i m
  cases t with
  | none=>simp only[iA,RT]; exact n1 hp h
  | some t =>
   have e:iA (some t) (.agg l)=match t.of l with | some (x,[]) => .agg (t.cells x) | _ => .agg (l.map mj):=by cases t<;>rfl
   rw[e]
   split
   ·rename_i x ho
    obtain⟨c,m',rfl,k1,k2⟩:=yd (ι':=ι') (S':=S') ho h
    rw[aM k2,List.append_nil]
    simp only[RT]
    exact k1
   ·simp only[RT]; exact n1 hp h
 | val u =>
  cases d<;>simp only[RT] at h
  have e:iA t (.val u) = .val u:=by cases t with | none=>rfl | some t=>cases t<;>rfl
  rw[e]
  simp only[RT]
  exact h
 | gl =>
  cases d<;>simp only[RT] at h
  obtain⟨rfl,rfl,rfl⟩:=h
  cases t with
  | none=>simp only[iA,RT]
  | some t =>
   cases t with
   | sl e=>simp only[iA,RT,dn]; exact⟨trivial,trivial⟩
   | _=>simp only[iA,RT]
 | sl k l ap =>
  cases d<;>simp only[RT] at h
  have e:iA t (.sl k l ap) = .sl k l .no:=by cases t with | none=>rfl | some t=>cases t<;>rfl
  rw[e]
  simp only[RT]
  exact⟨h.1,trivial⟩
 | _=>cases hp
theorem ij:∀ {ts:List (Option TT)} {l:List TV} {m:List DV},l.all eC=true→cG ι S l m→(m.map DV.strip).all DV.pure=true∧cG ι' S' (bk ts l) (m.map DV.strip)
 | _,[],m,_,h=>by rw[aM h]; exact⟨rfl,by simp only[bk,List.map_nil]; exact bL⟩
 | [],a::l,m,hp,h=>by
  obtain⟨d,m',rfl,h1,h2⟩:=aj h
  simp only[List.all_cons,Bool.and_eq_true] at hp
  obtain⟨k1,-,k2⟩:=jg (t:=none) (ι':=ι') (S':=S') hp.1 h1
  obtain⟨k3,k4⟩:=ij (ts:=[]) hp.2 h2
  refine⟨?_,by simp only[bk,List.map_cons]; exact aP k2 k4⟩
  rw[List.map_cons,List.all_cons,k1,k3]; rfl
 | t::ts,a::l,m,hp,h=>by
  obtain⟨d,m',rfl,h1,h2⟩:=aj h
  simp only[List.all_cons,Bool.and_eq_true] at hp
  obtain⟨k1,-,k2⟩:=jg (t:=t) (ι':=ι') (S':=S') hp.1 h1
  obtain⟨k3,k4⟩:=ij (ts:=ts) hp.2 h2
  refine⟨?_,by simp only[bk,List.map_cons]; exact aP k2 k4⟩
  rw[List.map_cons,List.all_cons,k1,k3]; rfl
theorem iq:∀ {ts:List (Option TT)} {l:List TV} {m:List DV},l.all eC=true→cG ι S l m→cG ι' S' (bk ts l) m
 | _,[],m,_,h=>by rw[aM h]; simp only[bk]; exact bL
 | [],a::l,m,hp,h=>by
  obtain⟨d,m',rfl,h1,h2⟩:=aj h
  simp only[List.all_cons,Bool.and_eq_true] at hp
  simp only[bk]
  exact aP (rM hp.1 h1) (iq hp.2 h2)
 | t::ts,a::l,m,hp,h=>by
  obtain⟨d,m',rfl,h1,h2⟩:=aj h
  simp only[List.all_cons,Bool.and_eq_true] at hp
  simp only[bk]
  exact aP (rM hp.1 h1) (iq hp.2 h2)
def eD:jR:=fun _=>none
def oA (aD:bq) (g:FuncId) (targs:List TV) (Q:TV→Prop):Prop :=
 ∀ bY,cG eD [] targs bY→∃ d v,aD g bY=some d∧d.pure=true∧RT eD [] v d∧refs v=[]∧Q v
theorem oA.mono {g:FuncId} {targs:List TV} {Q Q':TV→Prop} (h:oA aD g targs Q) (hq:∀ v,Q v→Q' v):oA aD g targs Q':=fun bY hd=>by
 obtain⟨d,v,h1,h2,h3,h4,h5⟩:=h bY hd
 exact⟨d,v,h1,h2,h3,h4,hq v h5⟩
theorem jh (hE:cG ι S te env) {f:Operand} {args:Array Operand} {g:FuncId} {fs cs xs:List TV} (hf:eZ te f=some (.fn g fs cs)) (ha:kX te args.toList=some xs) :
  ∃ xg jj IX,fM env f=some (.fn g xg jj)∧evs (fM env) args.toList=some IX∧cG ι S (fs++xs++cs) (xg++IX++jj):=by
 obtain⟨d,k1,k2⟩:=aS hE hf
 obtain⟨IX,k3,k4⟩:=pJ hE ha
 cases d<;>simp only[RT] at k2
 obtain⟨rfl,k5,k6⟩:=k2
 exact⟨_,_,IX,k1,k3,dO (dO k5 k4) k6⟩
theorem y7 {f:Operand} {args:Array Operand} {argTypes:Array TypeId} {g:FuncId} {fs cs xs targs:List TV} {Q:TV→Prop} (hop:o.op = .call { callee := .value f,args,argTypes }) (hh:ty.h o≠1) (hf:eZ te f=some (.fn g fs cs)) (ha:kX te args.toList=some xs) (hp:(fs++xs++cs).all eC=true)
  (hn:bk (fR tt fs argTypes) (fs++xs++cs)=targs) (hs:oA aD g targs Q) (dr:Bool):Does P ty aD call yf B o nT te tS dr fun v bT bU ft=>Q v∧bT=te∧bU=tS∧ft=⟨some [],false⟩:=by
 intro ι w env S ay hR hB hw hT O8 hS
 obtain⟨xg,jj,IX,k1,k2,k3⟩:=jh hR.env hf ha
 obtain⟨k4,k5⟩:=ij (ts:=fR tt fs argTypes) (ι':=eD) (S':=[]) hp k3
 rw[hn] at k5
 obtain⟨d,v,m1,m2,m3,m4,m5⟩:=hs _ k5
 refine⟨d,S,ι,w,v,te,tS,⟨some [],false⟩,⟨some [],false⟩,fun _ => ?_,fun hd => ?_,⟨id,fun l hl=>⟨[],rfl,fun j hj=>(by cases hj)⟩⟩,fun l m _ hm j hj=>(by cases hm; cases hj),hR,pQ _ _ m4 m3,hw,fun _ _ _=>rfl,Fr.refl _ _ _,hB,dZ _ _,m5,rfl,rfl,rfl⟩
 ·simp only[ah,hop,k1,k2,sK,k4,if_true,m1]
 ·simp only[aB,hop,k1,k2,if_neg hh,k4,if_true,m1,Option.map_some]
theorem Ni {k:Nat} {f:Operand} {args:Array Operand} {argTypes:Array TypeId} {g:FuncId} {fs cs xs targs:List TV} {K:TV→Prop} {Q:List TV→Prop} (ho:ops[k]? = some o) (hw:cV ops te o=some true) (hop:o.op = .call { callee := .value f,args,argTypes }) (hh:ty.h o≠1) (hf:eZ te f=some (.fn g fs cs)) (ha:kX te args.toList=some xs) (hp:(fs++xs++cs).all eC=true)
  (hn:bk (fR tt fs argTypes) (fs++xs++cs)=targs) (hs:oA aD g targs K) (h:∀ v,K v→WQ P ty aD call yf ops tS (k+1) (jM te o.dst v) Q):WQ P ty aD call yf ops tS k te Q:=by
 intro ι env S hR
 obtain⟨xg,jj,IX,k1,k2,k3⟩:=jh hR.env hf ha
 obtain⟨k4,k5⟩:=ij (ts:=fR tt fs argTypes) (ι':=eD) (S':=[]) hp k3
 rw[hn] at k5
 obtain⟨d,v,m1,m2,m3,m4,m5⟩:=hs _ k5
 obtain⟨az,bT,n1,n2,n3⟩:=h v m5 ι (gC env o.dst d) S (jX hR (pQ _ _ m4 m3) _)
 refine⟨az,bT,?_,n2,n3⟩
 rw[j4 ho]
 have hq:bZ P ty aD call yf (fM env) o S=some d:=by simp only[bZ,hop,k1,k2,if_neg hh,k4,if_true,m1]
 simp only[lN,eW hR.env hw,if_true,hq,n1]
def isRef:TV→Bool
 | .ptr _ _ | .fn _ _ _=>true
 | _=>false
def Qe (kp:Nat) (t:Option TT):TV→Option TV
 | .ptr k off=>if k=kp then some (.ptr 0 off) else none
 | v=>if eC v then some (iA t v) else none
def DC (kp:Nat):List TV→Option (List TV)
 | []=>some []
 | v::l=>match Qe kp none v,DC kp l with
  | some a,some b=>some (a::b)
  | _,_=>none
def Qh (kp:Nat) (t:Option TT):TV→Option TV
 | .fn g fs cs=>match DC kp fs,DC kp cs with
  | some a,some b=>some (.fn g a b)
  | _,_=>none
 | v=>Qe kp t v
def sL (kp:Nat):List (Option TT)→List TV→Option (List TV)
 | _,[]=>some []
 | [],v::l=>match Qh kp none v,sL kp [] l with
  | some a,some b=>some (a::b)
  | _,_=>none
 | t::ts,v::l=>match Qh kp t v,sL kp ts l with
  | some a,some b=>some (a::b)
  | _,_=>none
def gA (id:Nat):jR:=fun j=>if j=0 then some id else none
theorem IJ {kp id:Nat} {t:Option TT} {v v':TV} {d:DV} (hk:ι kp=some id) (h:Qe kp t v=some v') (hv:RT ι S v d):RT (gA id) S v' d:=by
 unfold Qe at h
 split at h
 ·split at h
  ·rename_i k off I6
   subst I6
   cases h
   cases d<;>simp only[RT] at hv ⊢
   rw[hk] at hv
   exact⟨hv.1,hv.2⟩
  ·cases h
 ·split at h
  ·rename_i hp
   cases h
   exact rM hp hv
  ·cases h
theorem yD {kp id:Nat} (hk:ι kp=some id):∀ {l l':List TV} {m:List DV},DC kp l=some l'→cG ι S l m→cG (gA id) S l' m
 | [],l',m,h,hv=>by cases h; rw[aM hv]; exact bL
 | v::l,l',m,h,hv=>by
  obtain⟨d,m',rfl,h1,h2⟩:=aj hv
  simp only[DC] at h
  split at h
  ·rename_i a b e1 e2
   cases h
   exact aP (IJ hk e1 h1) (yD hk e2 h2)
  ·cases h
theorem IP {kp id:Nat} {t:Option TT} {v v':TV} {d:DV} (hk:ι kp=some id) (h:Qh kp t v=some v') (hv:RT ι S v d):RT (gA id) S v' d:=by
 unfold Qh at h
 split at h
 ·split at h
  ·rename_i g fs cs a b e1 e2
   cases h
   cases d<;>simp only[RT] at hv ⊢
   exact⟨hv.1,yD hk e1 hv.2.1,yD hk e2 hv.2.2⟩
  ·cases h
 ·exact IJ hk h hv
theorem yE {kp id:Nat} (hk:ι kp=some id):∀ {ts:List (Option TT)} {l l':List TV} {m:List DV},sL kp ts l=some l'→cG ι S l m→cG (gA id) S l' m
 | _,[],l',m,h,hv=>by simp only[sL] at h; cases h; rw[aM hv]; exact bL
 | [],v::l,l',m,h,hv=>by
  obtain⟨d,m',rfl,h1,h2⟩:=aj hv
  simp only[sL] at h
  split at h
  ·rename_i a b e1 e2
   cases h
   exact aP (IP hk e1 h1) (yE hk e2 h2)
  ·cases h
 | t::ts,v::l,l',m,h,hv=>by
  obtain⟨d,m',rfl,h1,h2⟩:=aj hv
  simp only[sL] at h
  split at h
  ·rename_i a b e1 e2
   cases h
   exact aP (IP hk e1 h1) (yE hk e2 h2)
  ·cases h
theorem rE:∀ {l:List TV} {m:List DV},l.any isRef=true→cG ι S l m→(m.map DV.strip).all DV.pure=false
 | [],_,h,_=>by cases h
 | v::l,m,h,hv=>by
  obtain⟨d,m',rfl,h1,h2⟩:=aj hv
  simp only[List.any_cons,Bool.or_eq_true] at h
  rw[List.map_cons,List.all_cons]
  rcases h with h | h
  ·cases v<;>first | (cases h; done) | skip
   ·cases d<;>simp only[RT] at h1; rfl
   ·cases d<;>simp only[RT] at h1; rfl
  ·rw[rE h h2,Bool.and_false]
def vw (call:bg) (g:FuncId) (targs ts:List TV) (Q:TV→List TV→Prop):Prop :=
 ∀ ι bY S,bS ι targs [.cells ts] bY S→∃ d S' ι' v tR k' fD,call g bY S=some (d,S')∧RT ι' S' v d∧refs v=[]∧fN tR=[]∧ι 0=some k'∧S'[k']? = some (.cells fD)∧cG ι' S' tR fD∧Fr [0] ι S ι' S'∧Nn S.length S S'∧Q v tR
theorem vw.mono {g:FuncId} {targs ts:List TV} {Q Q':TV→List TV→Prop} (h:vw call g targs ts Q) (hq:∀ v ts,Q v ts→Q' v ts):vw call g targs ts Q':=fun ι bY S hd=>by
 obtain⟨d,S',ι',v,tR,k',fD,h1,h2,h3,h4,h5,h6,h7,h8,h9,rX⟩:=h ι bY S hd
 exact⟨d,S',ι',v,tR,k',fD,h1,h2,h3,h4,h5,h6,h7,h8,h9,hq _ _ rX⟩
theorem GU {f:Operand} {args:Array Operand} {argTypes:Array TypeId} {g:FuncId} {fs cs xs targs ts:List TV} {kp:Nat} {Q:TV→List TV→Prop} (hop:o.op = .call { callee := .value f,args,argTypes }) (hh:ty.h o≠1) (hf:eZ te f=some (.fn g fs cs)) (ha:kX te args.toList=some xs)
  (hn:sL kp (fR tt fs argTypes) (fs++xs++cs)=some targs) (hr:(fs++xs++cs).any isRef=true) (TQ:tS[kp]? = some (.cells ts)) (O7:fN ts=[]) (hs:vw call g targs ts Q):Does P ty aD call yf B o nT te tS false fun v bT bU ft=>∃ tR,Q v tR∧bT=te∧bU=tS.set kp (.cells tR)∧ft=⟨none,true⟩:=by
 intro ι w env S ay hR hB hw hT O8 hS
 obtain⟨xg,jj,IX,k1,k2,k3⟩:=jh hR.env hf ha
 obtain⟨gf,ds,k6,m2,m3⟩:=hR.cells kp ts TQ
 have hc:bS (gA gf) targs [.cells ts] (xg++IX++jj) S:=by
  refine⟨yE k6 hn k3,fun k l hk => ?_,fun k e s hk => ?_,fun k k' hk => ?_,fun i j k' hi hj => ?_,fun k b hk t ht=>by cases k with | zero=>cases hk; trivial | succ k=>simp at hk⟩
  ·cases k with
   | zero =>
    cases hk
    exact⟨gf,ds,rfl,m2,fZ _ _ O7 m3⟩
   | succ k=>simp at hk
  ·cases k<;>simp at hk
  ·by_cases h0:k=0
   ·subst h0; exact⟨_,rfl,fun e=>by cases e⟩
   ·simp only[gA,h0,if_false] at hk; cases hk
  ·by_cases xd:i=0<;>by_cases I8:j=0
   ·rw[xd,I8]
   ·simp only[gA,I8,if_false] at hj; cases hj
   ·simp only[gA,xd,if_false] at hi; cases hi
   ·simp only[gA,xd,if_false] at hi; cases hi
 obtain⟨d,S',ι',v,tR,k',fD,n1,n2,n3,n4,n5,n6,n7,n8,n9,n10⟩:=hs _ _ S hc
 simp only[gA,if_true,Option.some.injEq] at n5
 subst n5
 have nP:∀ k k0,k≠kp→ι k=some k0→S'[k0]? = S[k0]? := by
  intro k k0 hk h0
  refine n8.rest k0 (hR.live h0) fun j hj => ?_
  by_cases I8:j=0
  ·subst I8
   simp only[gA,if_true,Option.some.injEq] at hj
   subst hj
   exact hk (hR.inj _ _ _ h0 k6)
  ·simp only[gA,I8,if_false] at hj; cases hj
 have K:jx ι S ι S' fun _=>False:=fun k k0 _ hk=>⟨hk,by
  by_cases I6:k=kp
  ·subst I6
   rw[k6] at hk
   cases hk
   exact wP (by rw[m2]; simp) (by rw[m2]; simp)
  ·exact dU (nP k k0 I6 hk)⟩
 have XQ:=rE hr k3
 refine⟨d,S',ι,w,v,te,tS.set kp (.cells tR),⟨none,true⟩,⟨none,true⟩,fun _ => ?_,fun hd=>(by cases hd),⟨fun e=>e,fun l hl=>(by cases hl)⟩,fun l m hl=>(by cases hl),?_,pQ _ _ n3 n2,hw,fun _ _ _=>rfl,⟨fun k0 hl hno=>n8.rest k0 hl fun j hj => ?_,fun k k0 hk => .inl ⟨k,hk⟩,fun _ _=>rfl⟩,fun k hk => ?_,⟨n9.1,fun j hj dI => ?_⟩,tR,n10,rfl,rfl,rfl⟩
 ·simp only[ah,hop,k1,k2,sK,XQ,Bool.false_eq_true,if_false,n1]
 ·refine⟨bw K _ _ hR.env,fun k l hk => ?_,fun k e s hk t ht => ?_,fun k k0 hk => ?_,hR.inj,fun k b hk t ht=>by
   rw[List.getElem?_set] at hk
   split at hk
   ·split at hk<;>cases hk
    trivial
   ·rename_i e1
    rw[nP k t (fun e=>e1 e.symm) ht]; exact hR.mp k b hk t ht⟩
  ·rw[List.getElem?_set] at hk
   split at hk
   ·rename_i e1
    subst e1
    split at hk
    ·cases hk
     exact⟨gf,fD,k6,n6,fZ _ _ n4 n7⟩
    ·cases hk
   ·rename_i e1
    obtain⟨k0,Lh,q1,q2,q3⟩:=hR.cells k l hk
    exact⟨k0,Lh,q1,by rw[nP k k0 (Ne.symm e1) q1]; exact q2,bw K _ _ q3⟩
  ·rw[List.getElem?_set] at hk
   split at hk
   ·split at hk<;>cases hk
   ·obtain⟨n,q1⟩:=hR.own k e s hk t ht
    exact⟨n,(K k t (fun e=>e) ht).2.1 _ _ _ q1⟩
  ·rw[List.getElem?_set]
   split
   ·rename_i e1
    subst e1
    exact⟨_,if_pos (List.getElem?_eq_some_iff.1 TQ).1,fun e=>by cases e⟩
   ·exact hR.sw k k0 hk
 ·by_cases I8:j=0
  ·subst I8
   simp only[gA,if_true,Option.some.injEq] at hj
   subst hj
   exact hno _ k6
  ·simp only[gA,I8,if_false] at hj; cases hj
 ·rw[List.getElem?_set]
  split
  ·rename_i e1
   subst e1
   exact⟨_,if_pos (List.getElem?_eq_some_iff.1 TQ).1⟩
  ·exact hB k hk
 ·have:=(List.getElem?_eq_some_iff.1 dI).1
  exact n9.2 j (by omega) dI
def sI:TV→Bool
 | .val v => !(v matches .tuple _)
 | .sl _ _ .no=>true
 | _=>false
def Dv:TV→Bool
 | .agg l=>l.all sI
 | .val _ | .sl _ _ .no=>true
 | _=>false
def HA:TV→Bool
 | .fB l=>l.all Dv
 | v=>Dv v
theorem EY {v:TV} {d:DV} (hp:sI v=true) (h:RT ι S v d):d.aG.bt=true∧RT ι' S' v d.aG:=by
 cases v<;>first | (cases hp; done) | skip
 ·cases d<;>simp only[RT] at h
  subst h
  exact⟨hp,by simp only[RT,DV.aG]⟩
 ·rename_i t l ap
  cases ap<;>first | (cases hp; done) | skip
  cases d<;>simp only[RT] at h
  exact⟨rfl,by simp only[RT,DV.aG]; exact⟨h.1,trivial⟩⟩
theorem j7:∀ {l:List TV} {m:List DV},l.all sI=true→cG ι S l m→(m.map DV.aG).all DV.bt=true∧cG ι' S' l (m.map DV.aG)
 | [],m,_,h=>by rw[aM h]; exact⟨rfl,bL⟩
 | a::l,m,hp,h=>by
  obtain⟨d,m',rfl,h1,h2⟩:=aj h
  simp only[List.all_cons,Bool.and_eq_true] at hp
  obtain⟨k1,k2⟩:=EY (ι':=ι') (S':=S') hp.1 h1
  obtain⟨k3,k4⟩:=j7 hp.2 h2
  exact⟨by rw[List.map_cons,List.all_cons,k1,k3]; rfl,aP k2 k4⟩
theorem vR {v:TV} {d:DV} (hp:Dv v=true) (h:RT ι S v d):d.cA.gz=true∧RT ι' S' v d.cA:=by
 cases v<;>first | (cases hp; done) | skip
 ·cases d<;>simp only[RT] at h
  subst h
  exact⟨rfl,by simp only[RT,DV.cA]⟩
 ·cases d<;>simp only[RT] at h
  obtain⟨k1,k2⟩:=j7 (ι':=ι') (S':=S') hp h
  exact⟨k1,by simp only[RT,DV.cA]; exact k2⟩
 ·rename_i t l ap
  cases ap<;>first | (cases hp; done) | skip
  cases d<;>simp only[RT] at h
  exact⟨rfl,by simp only[RT,DV.cA]; exact⟨h.1,trivial⟩⟩
theorem tP:∀ {l:List TV} {m:List DV},l.all Dv=true→cG ι S l m→(m.map DV.cA).all DV.gz=true∧cG ι' S' l (m.map DV.cA)
 | [],m,_,h=>by rw[aM h]; exact⟨rfl,bL⟩
 | a::l,m,hp,h=>by
  obtain⟨d,m',rfl,h1,h2⟩:=aj h
  simp only[List.all_cons,Bool.and_eq_true] at hp
  obtain⟨k1,k2⟩:=vR (ι':=ι') (S':=S') hp.1 h1
  obtain⟨k3,k4⟩:=tP hp.2 h2
  exact⟨by rw[List.map_cons,List.all_cons,k1,k3]; rfl,aP k2 k4⟩
theorem EX {v:TV} {d:DV} (hp:HA v=true) (h:RT ι S v d):d.strip.pure=true∧RT ι' S' v d.strip:=by
 by_cases hd:∃ l,d = .fB l
 ·obtain⟨m,rfl⟩:=hd
  cases v<;>simp only[RT] at h<;>first | (cases hp; done) | skip
  obtain⟨k1,k2⟩:=tP (ι':=ι') (S':=S') hp h
  exact⟨k1,by simp only[RT,DV.strip]; exact k2⟩
 ·have hv:Dv v=true:=by
   cases v<;>first | exact hp | skip
   cases d<;>simp only[RT] at h
   exact(hd ⟨_,rfl⟩).elim
  obtain⟨k1,k2⟩:=vR (ι':=ι') (S':=S') hv h
  have e:d.strip=d.cA:=by cases d<;>first | rfl | exact(hd ⟨_,rfl⟩).elim
  refine⟨?_,by rw[e]; exact k2⟩
  rw[e]
  have:∀ c:DV,c.gz=true→(∀ l,c ≠ .fB l)→c.pure=true:=fun c h hn=>by cases c<;>first | exact h | exact(hn _ rfl).elim
  refine this _ k1 fun l hl => ?_
  cases d<;>simp only[DV.cA] at hl<;>first | (cases hl; done) | exact hd ⟨_,rfl⟩
theorem E0 {f:Operand} {args:Array Operand} {argTypes:Array TypeId} {g:FuncId} {fs cs xs rest ts:List TV} {kp off:Nat} {Q:TV→List TV→Prop} (hop:o.op = .call { callee := .value f,args,argTypes }) (hh:ty.h o≠1) (hf:eZ te f=some (.fn g fs cs)) (ha:kX te args.toList=some xs)
  (hl:fs++xs++cs = .ptr kp off::rest) (hp:rest.all eC=true) (TQ:tS[kp]? = some (.cells ts)) (sk:ts.all sI=true) (hs:vw call g (.ptr 0 off::bk (fR tt fs argTypes).tail rest) ts Q) (hq:∀ v tR,Q v tR→HA v=true∧tR.all sI=true) :
  Does P ty aD call yf B o nT te tS true fun v bT bU ft=>∃ tR,Q v tR∧bT=te∧bU=tS.set kp (.cells tR)∧ft=⟨some [kp],true⟩:=by
 intro ι w env S ay hR hB hw hT O8 hS
 obtain⟨xg,jj,IX,k1,k2,k3⟩:=jh hR.env hf ha
 obtain⟨gf,ds,k6,m2,m3⟩:=hR.cells kp ts TQ
 rw[hl] at k3
 obtain⟨d0,m0,hm0,K3,Fj⟩:=aj k3
 have Fq:d0 = .ptr gf off:=by
  cases d0<;>simp only[RT] at K3
  obtain⟨e1,e2⟩:=K3
  rw[k6] at e1
  cases e1
  rw[e2]
 subst Fq
 obtain⟨p1,p2⟩:=ij (ts:=(fR tt fs argTypes).tail) (ι':=gA 0) (S':=[.cells (ds.map DV.aG)]) hp Fj
 obtain⟨c1,c2⟩:=j7 (ι':=gA 0) (S':=[.cells (ds.map DV.aG)]) sk m3
 have hc:bS (gA 0) (.ptr 0 off::bk (fR tt fs argTypes).tail rest) [.cells ts] (.ptr 0 off::m0.map DV.strip) [.cells (ds.map DV.aG)]:=by
  refine⟨aP (by simp only[RT]; exact⟨rfl,trivial⟩) p2,fun k l hk => ?_,fun k e s hk => ?_,fun k k' hk => ?_,fun i j k' hi hj => ?_,fun k b hk t ht=>by cases k with | zero=>cases hk; trivial | succ k=>simp at hk⟩
  ·cases k with
   | zero =>
    cases hk
    exact⟨0,_,rfl,rfl,c2⟩
   | succ k=>simp at hk
  ·cases k<;>simp at hk
  ·by_cases h0:k=0
   ·subst h0; exact⟨_,rfl,fun e=>by cases e⟩
   ·simp only[gA,h0,if_false] at hk; cases hk
  ·by_cases xd:i=0<;>by_cases I8:j=0
   ·rw[xd,I8]
   ·simp only[gA,I8,if_false] at hj; cases hj
   ·simp only[gA,xd,if_false] at hi; cases hi
   ·simp only[gA,xd,if_false] at hi; cases hi
 obtain⟨d,S1,ι1,v,tR,k',fD,n1,n2,n3,n4,n5,n6,n7,n8,n9,n10⟩:=hs _ _ _ hc
 simp only[gA,if_true,Option.some.injEq] at n5
 subst n5
 obtain⟨q1,q2⟩:=hq _ _ n10
 obtain⟨r1,r2⟩:=EX (ι':=ι) (S':=S.set gf (.cells (fD.map DV.aG))) q1 n2
 obtain⟨r3,r4⟩:=j7 (ι':=ι) (S':=S.set gf (.cells (fD.map DV.aG))) q2 n7
 have ZI:∃ T,S1 = .cells fD::T:=by
  cases S1 with
  | nil=>simp at n6
  | cons a T=>simp only[List.getElem?_cons_zero,Option.some.injEq] at n6; exact⟨T,by rw[n6]⟩
 obtain⟨T,rfl⟩:=ZI
 have hid:gf<S.length:=(List.getElem?_eq_some_iff.1 m2).1
 have nP:∀ k0,k0≠gf→(S.set gf (.cells (fD.map DV.aG)))[k0]? = S[k0]? := fun k0 h=>by rw[List.getElem?_set,if_neg fun e=>h e.symm]
 have hkp:∀ k,k≠kp→∀ k0,ι k=some k0→k0≠gf:=fun k hk k0 h0 e=>hk (hR.inj _ _ _ (e▸h0) k6)
 have K:jx ι S ι (S.set gf (.cells (fD.map DV.aG))) fun _=>False:=fun k k0 _ hk=>⟨hk,by
  by_cases I6:k0=gf
  ·subst I6
   exact wP (by rw[m2]; simp) (by rw[m2]; simp)
  ·exact dU (nP k0 I6)⟩
 have XQ:((xg++IX++jj).map DV.strip).all DV.pure=false:=by rw[hm0]; rfl
 have ho:vc call g (xg++IX++jj) S=some (gf,d.strip,fD.map DV.aG):=by
  rw[hm0]
  simp only[vc,m2,p1,c1,Bool.and_self,if_true,n1,r1,r3]
 refine⟨d.strip,S.set gf (.cells (fD.map DV.aG)),ι,w,v,te,tS.set kp (.cells tR),⟨some [gf],true⟩,⟨some [kp],true⟩,fun hd=>(by cases hd),fun _ => ?_,⟨fun e=>e,fun l hl => ?_⟩,fun l m hl hm j hj => ?_,?_,r2,hw,fun _ _ _=>rfl,⟨fun k0 hl hno=>nP k0 fun e=>hno _ (e▸k6),fun k k0 hk => .inl ⟨k,hk⟩,fun _ _=>rfl⟩,fun k hk => ?_,⟨by simp,fun j hj dI => ?_⟩,tR,n10,rfl,rfl,rfl⟩
 ·simp only[aB,hop,k1,k2,if_neg hh,XQ,Bool.false_eq_true,if_false,ho]
 ·cases hl
  exact⟨[gf],rfl,fun j hj=>⟨kp,by simp,by simp only[List.mem_singleton] at hj; rw[hj]; exact hw _ _ k6⟩⟩
 ·cases hm
  simp only[List.mem_singleton] at hj
  exact .inr ⟨kp,hj▸k6⟩
 ·refine⟨bw K _ _ hR.env,fun k l hk => ?_,fun k e s hk t ht => ?_,fun k k0 hk => ?_,hR.inj,fun k b hk t ht=>by
   rw[List.getElem?_set] at hk
   split at hk
   ·split at hk<;>cases hk
    trivial
   ·rename_i e1
    rw[nP t (hkp k (fun e=>e1 e.symm) t ht)]; exact hR.mp k b hk t ht⟩
  ·rw[List.getElem?_set] at hk
   split at hk
   ·rename_i e1
    subst e1
    split at hk
    ·cases hk
     exact⟨gf,_,k6,by rw[List.getElem?_set,if_pos rfl,if_pos hid],r4⟩
    ·cases hk
   ·rename_i e1
    obtain⟨k0,Lh,q1,q2,q3⟩:=hR.cells k l hk
    exact⟨k0,Lh,q1,by rw[nP k0 (hkp k (Ne.symm e1) k0 q1)]; exact q2,bw K _ _ q3⟩
  ·rw[List.getElem?_set] at hk
   split at hk
   ·split at hk<;>cases hk
   ·obtain⟨n,q1⟩:=hR.own k e s hk t ht
    exact⟨n,(K k t (fun e=>e) ht).2.1 _ _ _ q1⟩
  ·rw[List.getElem?_set]
   split
   ·rename_i e1
    subst e1
    exact⟨_,if_pos (List.getElem?_eq_some_iff.1 TQ).1,fun e=>by cases e⟩
   ·exact hR.sw k k0 hk
 ·rw[List.getElem?_set]
  split
  ·rename_i e1
   subst e1
   exact⟨_,if_pos (List.getElem?_eq_some_iff.1 TQ).1⟩
  ·exact hB k hk
 ·rw[nP j]
  ·exact dI
  ·intro e
   rw[e,m2] at dI
   cases dI
end Go.Tv
end
