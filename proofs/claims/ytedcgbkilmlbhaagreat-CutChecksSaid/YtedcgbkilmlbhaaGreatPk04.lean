import Derived.Test.YtedcgbkilmlbhaaGreatPk03
section
namespace Go.Tv
open Go Go.Di
def j8:List TB→List TB
 | []=>[]
 | b::l=>match j8 l,b with
  | [],.none=>[]
  | l',b=>b::l'
theorem CG:∀ tS:List TB,∃ n,tS=j8 tS++List.replicate n .none
 | []=>⟨0,rfl⟩
 | b::l=>by
  obtain⟨n,h⟩:=CG l
  simp only[j8]
  split
  ·rename_i e
   rw[e] at h
   exact⟨n+1,by rw[h]; rfl⟩
  ·exact⟨n,by rw[List.cons_append,← h]⟩
inductive s8:List TV→List TV→Prop
 | nil:s8 [] []
 | unk {v:TV} {l m:List TV}:s8 l m→s8 (.unk::l) (v::m)
 | same {v:TV} {l m:List TV}:s8 l m→s8 (v::l) (v::m)
 | no {t:TT} {x:List t.den} {ap:Ap} {l m:List TV}:s8 l m→s8 (.sl t x .no::l) (.sl t x ap::m)
 | oC {t:TT} {g:Nat} {l m:List TV}:s8 l m→s8 (.sl t [] (.oC g)::l) (.sl t [] .full::m)
 | eu {t:TT} {ap:Ap} {l m:List TV}:s8 l m→s8 (.sl t [] ap::l) (.eu::m)
 | agg {a b l m:List TV}:s8 a b→s8 l m→s8 (.agg a::l) (.agg b::m)
theorem s8.refl:∀ l:List TV,s8 l l
 | [] => .nil
 | _::l => .same (s8.refl l)
mutual
def refs:TV→List Nat
 | .sl _ _ (.oC g)=>[g]
 | .ptr id _=>[id]
 | .mp id=>[id]
 | .so g _=>[g]
 | .sp g _ _ _=>[g]
 | .agg l=>gn l
 | .ep l=>gn l
 | .fn _ a b=>gn a++gn b
 | _=>[]
def gn:List TV→List Nat
 | []=>[]
 | a::l=>refs a++gn l
end
inductive Al:List TB→List TB→Prop
 | nil {l:List TB}:Al [] l
 | none {b:TB} {l m:List TB}:Al l m→Al (.none::l) (b::m)
 | own {e s:Nat} {l m:List TB}:Al l m→Al (.own e s::l) (.own e s::m)
 | new {e s:Nat} {l:List TB}:Al l []→Al (.own e s::l) []
 | cells {a b:List TV} {l m:List TB}:s8 a b→Al l m→Al (.cells a::l) (.cells b::m)
 | map {kt:TT} {c:List kt.den} {l m:List TB}:Al l m→Al (.map kt c::l) (.map kt c::m)
 | rows {t:TT} {e:Nat} {c:List t.den} {z:Bool} {l m:List TB}:Al l m→Al (.rows t e c z::l) (.rows t e c z::m)
def kX (tS:List TB) (k:Nat):Bool :=
 match tS[k]? with
 | some .none | none=>false
 | _=>true
def A3:List TB→List Nat
 | []=>[]
 | .cells a::l=>gn a++A3 l
 | _::l=>A3 l
def okB (te:List TV) (tS:List TB):Bool:=(gn te++A3 tS).all (kX tS)
variable {P:Program} {ty:eY} {tt:TypeId→Option TT} {ι ι' w:jE} {S S':ak} {te j6:List TV} {env:List DV} {tS gT:List TB} {aC:bk} {call:aW} {yf:dR} {o:Oper} {ay nT:Nat} {B:List Nat} {r:TR} {ops:Array Oper}
theorem GK {l m:List TV} (h:s8 l m):∀ {ds:List DV},cq ι S m ds→cq ι S l ds:=by
 induction h with
 | nil=>exact id
 | unk _ ih=>intro ds hd; obtain⟨d,m',rfl,h1,h2⟩:=ai hd; exact aD (by simp only[RT]) (ih h2)
 | same _ ih=>intro ds hd; obtain⟨d,m',rfl,h1,h2⟩:=ai hd; exact aD h1 (ih h2)
 | no _ ih =>
  intro ds hd
  obtain⟨d,m',rfl,h1,h2⟩:=ai hd
  refine aD ?_ (ih h2)
  cases d<;>simp only[RT] at h1 ⊢
  exact⟨h1.1,trivial⟩
 | oC _ ih =>
  intro ds hd
  obtain⟨d,m',rfl,h1,h2⟩:=ai hd
  refine aD ?_ (ih h2)
  cases d<;>simp only[RT] at h1 ⊢
  exact⟨h1.1,.inl ⟨h1.2.1,h1.2.2,ja h1.1⟩⟩
 | eu _ ih =>
  rename_i ap _ _ _
  intro ds hd
  obtain⟨d,m',rfl,h1,h2⟩:=ai hd
  refine aD ?_ (ih h2)
  cases d<;>simp only[RT] at h1 ⊢
  obtain⟨rfl,rfl,rfl⟩:=h1
  refine⟨trivial,?_⟩
  cases ap with
  | no=>trivial
  | full=>exact⟨rfl,rfl⟩
  | oC g=>exact .inl ⟨rfl,rfl,rfl⟩
 | agg _ _ JL LG =>
  intro ds hd
  obtain⟨d,m',rfl,h1,h2⟩:=ai hd
  refine aD ?_ (LG h2)
  cases d<;>simp only[RT] at h1 ⊢
  exact JL h1
mutual
theorem RU:∀ (v:TV) (d:DV),(∀ k∈refs v,ι' k=ι k)→RT ι S v d→RT ι' S v d
 | .unk,_,_,_=>by simp only[RT]
 | .val _,d,_,k=>by cases d<;>simp only[RT] at k ⊢; exact k
 | .eu,d,_,k=>by cases d<;>simp only[RT] at k ⊢; exact k
 | .agg l,d,h,k=>by cases d<;>simp only[RT] at k ⊢; exact lC l _ h k
 | .ep l,d,h,k=>by cases d<;>simp only[RT] at k ⊢; exact lC l _ h k
 | .sl t l .no,d,_,k=>by cases d<;>simp only[RT] at k ⊢; exact k
 | .sl t l .full,d,_,k=>by cases d<;>simp only[RT] at k ⊢; exact k
 | .sl t l (.oC g),d,h,k=>by
  cases d<;>simp only[RT,qV] at k ⊢
  rw[h g (by simp[refs])]
  exact k
 | .ptr id off,d,h,k=>by
  cases d<;>simp only[RT] at k ⊢
  rw[h id (by simp[refs])]
  exact k
 | .cV t l i off,d,_,k=>by cases d<;>simp only[RT] at k ⊢; exact k
 | .mp id,d,h,k=>by
  cases d<;>simp only[RT] at k ⊢
  rw[h id (by simp[refs])]
  exact k
 | .so g t,d,h,k=>by
  cases d<;>simp only[RT] at k ⊢
  rw[h g (by simp[refs])]
  exact k
 | .sp g t i off,d,h,k=>by
  cases d<;>simp only[RT] at k ⊢
  rw[h g (by simp[refs])]
  exact k
 | .fn f a b,d,h,k=>by
  cases d<;>simp only[RT] at k ⊢
  exact⟨k.1,lC a _ (fun j hj=>h j (by simp[refs,hj])) k.2.1,lC b _ (fun j hj=>h j (by simp[refs,hj])) k.2.2⟩
theorem lC:∀ (l:List TV) (m:List DV),(∀ k∈gn l,ι' k=ι k)→cq ι S l m→cq ι' S l m
 | [],m,_,k=>by rw[aF k]; exact bI
 | a::l,m,h,k=>by
  obtain⟨d,m',rfl,h1,h2⟩:=ai k
  exact aD (RU a d (fun j hj=>h j (by simp[gn,hj])) h1) (lC l m' (fun j hj=>h j (by simp[gn,hj])) h2)
end
theorem xS {l m:List TB} (h:Al l m):∀ {k:Nat} {b:TB},l[k]? = some b→b = .none∨(∃ e s,b = .own e s∧(m[k]? = some (.own e s)∨m[k]? = none))∨(∃ a c,b = .cells a∧m[k]? = some (.cells c)∧s8 a c)∨(m[k]? = some b∧(∀ l,b ≠ .cells l)∧∀ e s,b ≠ .own e s):=by
 induction h with
 | nil=>intro k b hb; simp at hb
 | none _ ih =>
  intro k b hb
  cases k with
  | zero=>simp only[List.getElem?_cons_zero,Option.some.injEq] at hb; exact .inl hb.symm
  | succ k=>simpa using ih (k:=k) (by simpa using hb)
 | own _ ih =>
  intro k b hb
  cases k with
  | zero=>simp only[List.getElem?_cons_zero,Option.some.injEq] at hb; subst hb; exact .inr (.inl ⟨_,_,rfl,.inl rfl⟩)
  | succ k=>simpa using ih (k:=k) (by simpa using hb)
 | new _ ih =>
  intro k b hb
  cases k with
  | zero=>simp only[List.getElem?_cons_zero,Option.some.injEq] at hb; subst hb; exact .inr (.inl ⟨_,_,rfl,.inr rfl⟩)
  | succ k=>simpa using ih (k:=k) (by simpa using hb)
 | cells hl _ ih =>
  intro k b hb
  cases k with
  | zero=>simp only[List.getElem?_cons_zero,Option.some.injEq] at hb; subst hb; exact .inr (.inr (.inl ⟨_,_,rfl,rfl,hl⟩))
  | succ k=>simpa using ih (k:=k) (by simpa using hb)
 | map _ ih =>
  intro k b hb
  cases k with
  | zero=>simp only[List.getElem?_cons_zero,Option.some.injEq] at hb; subst hb; exact .inr (.inr (.inr ⟨rfl,by simp,by simp⟩))
  | succ k=>simpa using ih (k:=k) (by simpa using hb)
 | rows _ ih =>
  intro k b hb
  cases k with
  | zero=>simp only[List.getElem?_cons_zero,Option.some.injEq] at hb; subst hb; exact .inr (.inr (.inr ⟨rfl,by simp,by simp⟩))
  | succ k=>simpa using ih (k:=k) (by simpa using hb)
theorem BA {k:Nat} {a:List TV}:∀ {tS:List TB} {j:Nat},tS[j]? = some (.cells a)→k∈gn a→k∈A3 tS
 | [],_,h,_=>by simp at h
 | b::l,0,h,hk=>by
  simp only[List.getElem?_cons_zero,Option.some.injEq] at h
  subst h
  simp[A3,hk]
 | b::l,j+1,h,hk=>by
  have:=BA (tS:=l) (j:=j) (by simpa using h) hk
  cases b<;>simp[A3,this]
theorem o9 (h:bL ι te tS env S) (hl:s8 j6 te) (hb:Al gT tS) (fT:okB j6 gT=true) (hB:mo B gT):∃ ι1,bL ι1 j6 gT env S∧Fr B ι S ι1 S∧(∀ k,ι1 k=if kX gT k then ι k else none):=by
 simp only[okB,List.all_append,Bool.and_eq_true,List.all_eq_true] at fT
 refine⟨fun k=>if kX gT k then ι k else none,⟨?_,fun k l hk => ?_,fun k e s hk t ht => ?_,fun k k' hk => ?_,fun i j k' hi hj => ?_,fun k b hk t ht => ?_⟩,⟨fun _ _ _=>rfl,fun k k' hk => ?_,fun k hk => ?_⟩,fun _=>rfl⟩
 ·refine lC _ _ (fun k hk => ?_) (GK hl h.env)
  rw[if_pos (fT.1 k hk)]
 ·rcases xS hb hk with e | ⟨_,_,e,-⟩ | ⟨a,c,e,h1,h2⟩ | ⟨_,e,-⟩
  ·cases e
  ·cases e
  rotate_left
  ·exact absurd rfl (e _)
  ·cases e
   obtain⟨k',ds,n1,n2,n3⟩:=h.cells k c h1
   refine⟨k',ds,?_,n2,lC _ _ (fun j hj => ?_) (GK h2 n3)⟩
   ·have:kX gT k=true:=by simp only[kX,hk]
    rw[if_pos this]; exact n1
   ·rw[if_pos (fT.2 j (BA hk hj))]
 ·split at ht
  ·rcases xS hb hk with e' | ⟨_,_,e',h1⟩ | ⟨a,c,e',h1,h2⟩ | ⟨_,-,e'⟩
   rotate_left 3
   ·exact absurd rfl (e' _ _)
   ·cases e'
   ·cases e'
    rcases h1 with h1 | h1
    ·exact h.own k e s h1 t ht
    ·obtain⟨b,h2,-⟩:=h.uP k t ht
     rw[h1] at h2; cases h2
   ·cases e'
  ·cases ht
 ·split at hk
  ·rename_i fV
   unfold kX at fV
   split at fV
   ·cases fV
   ·cases fV
   ·rename_i b Ih AV
    cases hx:gT[k]? with
    | none=>exact(AV hx).elim
    | some b=>exact⟨b,rfl,fun e=>Ih (by rw[hx,e])⟩
  ·cases hk
 ·split at hi
  ·split at hj
   ·exact h.inj i j k' hi hj
   ·cases hj
  ·cases hi
 ·split at ht
  ·rcases xS hb hk with e' | ⟨_,_,e',-⟩ | ⟨_,_,e',-⟩ | ⟨h1,-⟩
   ·subst e'; trivial
   ·subst e'; trivial
   ·subst e'; trivial
   ·exact h.mp k _ h1 t ht
  ·cases ht
 ·split at hk
  ·exact .inl ⟨k,hk⟩
  ·cases hk
 ·obtain⟨l,h1⟩:=hB k hk
  have:kX gT k=true:=by simp only[kX,h1]
  simp only[this,if_true]
theorem pG (hb:Al gT tS) (hB:mo B tS) (h:∀ k,k∈B→kX gT k=true):mo B gT:=by
 intro k hk
 have h1:=h k hk
 obtain⟨l,h2⟩:=hB k hk
 unfold kX at h1
 split at h1
 ·cases h1
 ·cases h1
 ·rename_i b Ih AV
  cases hx:gT[k]? with
  | none=>exact(AV hx).elim
  | some b =>
   rcases xS hb hx with e | ⟨_,_,e,h3⟩ | ⟨a,c,e,-,-⟩ | ⟨h3,e,-⟩
   ·exact(Ih (by rw[hx,e])).elim
   ·rw[h2] at h3; rcases h3 with h3 | h3<;>cases h3
   ·exact⟨a,by rw[e]⟩
   ·rw[h2] at h3; cases h3; exact absurd rfl (e _)
theorem EO (h:bL ι te tS env S):bL ι te (j8 tS) env S:=by
 obtain⟨n,hn⟩:=CG tS
 have hT:∀ (k:Nat) (b:TB),b ≠ .none→(tS[k]? = some b↔(j8 tS)[k]? = some b):=by
  intro k b hb
  conv=>lhs; rw[hn]
  rw[List.getElem?_append]
  split
  ·rfl
  ·rename_i hlt
   rw[List.getElem?_eq_none (l:=j8 tS) (by omega),List.getElem?_replicate]
   split
   ·exact⟨fun e=>by cases e; exact(hb rfl).elim,fun e=>by cases e⟩
   ·exact Iff.rfl
 refine⟨h.env,fun k l hk=>h.cells k l ((hT _ _ (fun e=>by cases e)).2 hk),fun k e s hk=>h.own k e s ((hT _ _ (fun e=>by cases e)).2 hk),fun k k' hk => ?_,h.inj,fun k b hk t ht=>by
  cases b with
  | none=>trivial
  | _=>exact h.mp k _ ((hT _ _ (fun e=>by cases e)).2 hk) t ht⟩
 obtain⟨b,h1,h2⟩:=h.uP k k' hk
 exact⟨b,(hT _ _ h2).1 h1,h2⟩
theorem Fj (hB:mo B tS):mo B (j8 tS):=by
 intro k hk
 obtain⟨l,h1⟩:=hB k hk
 obtain⟨n,hn⟩:=CG tS
 refine⟨l,?_⟩
 rw[hn,List.getElem?_append] at h1
 split at h1
 ·exact h1
 ·rw[List.getElem?_replicate] at h1
  split at h1<;>cases h1
section
variable (P:Program) (ty:eY) (aC:bk) (call:aW) (yf:dR) (B:List Nat) (L:Nat) (fn:FuncId) (fF:Bool)
def WT (c:Code) (te:List TV) (tS:List TB) (Q:DX→List TV→List TB→Prop):Prop :=
 ∀ ι env S,bL ι te tS env S→mo B tS→∃ e ax S' ι' bS bV,bC P ty aC call yf L fn fF c env S=some (e,ax,S')∧bL ι' bS bV ax S'∧mo B bV∧Fr B ι S ι' S'∧Nn S.length S S'∧Q e bS bV
end
section
variable {L:Nat} {fn:FuncId} {fF:Bool} {a b c:Code} {Q Q':DX→List TV→List TB→Prop}
theorem WT.mono (h:WT P ty aC call yf B L fn fF c te tS Q) (hq:∀ e te tS,Q e te tS→Q' e te tS):WT P ty aC call yf B L fn fF c te tS Q':=by
 intro ι env S hR hB
 obtain⟨e,ax,S',ι',bS,bV,h1,h2,h3,h4,h5,h6⟩:=h ι env S hR hB
 exact⟨e,ax,S',ι',bS,bV,h1,h2,h3,h4,h5,hq _ _ _ h6⟩
theorem Rj (h:Q .normal te tS):WT P ty aC call yf B L fn fF .skip te tS Q:=fun ι env S hR hB=>⟨.normal,env,S,ι,te,tS,rfl,hR,hB,Fr.refl _ _ _,ew _ _,h⟩
theorem Oa {l:Nat} (h:Q .normal te tS):WT P ty aC call yf B L fn fF (.label l) te tS Q:=fun ι env S hR hB=>⟨.normal,env,S,ι,te,tS,rfl,hR,hB,Fr.refl _ _ _,ew _ _,h⟩
theorem Rn {id:Nat} (h:Q (.exit id) te tS):WT P ty aC call yf B L fn fF (.exit id) te tS Q:=fun ι env S hR hB=>⟨.exit id,env,S,ι,te,tS,rfl,hR,hB,Fr.refl _ _ _,ew _ _,h⟩
theorem WB (h:Q .ret te tS):WT P ty aC call yf B L fn fF .ret te tS Q:=fun ι env S hR hB=>⟨.ret,env,S,ι,te,tS,rfl,hR,hB,Fr.refl _ _ _,ew _ _,h⟩
theorem N6 (h:WT P ty aC call yf B L fn fF c te tS Q):WT P ty aC call yf B L fn fF (.scope c) te tS Q:=fun ι env S hR hB=>by
 obtain⟨e,ax,S',ι',bS,bV,h1,h2⟩:=h ι env S hR hB
 exact⟨e,ax,S',ι',bS,bV,by simp only[bC,h1],h2⟩
theorem Nu (h:WT P ty aC call yf B L fn fF a te tS fun e te tS=>match e with | .normal=>WT P ty aC call yf B L fn fF b te tS Q | e=>Q e te tS):WT P ty aC call yf B L fn fF (.seq a b) te tS Q:=by
 intro ι env S hR hB
 obtain⟨e,ax,S',ι',bS,bV,h1,h2,h3,h4,h5,h6⟩:=h ι env S hR hB
 cases e with
 | normal =>
  obtain⟨e,mN,rH,ι'',rK,rM,k1,k2,k3,k4,k5,k6⟩:=h6 ι' ax S' h2 h3
  exact⟨e,mN,rH,ι'',rK,rM,by simp only[bC,h1,k1],k2,k3,h4.trans k4,pn h5 k5,k6⟩
 | exit id=>exact⟨_,ax,S',ι',bS,bV,by simp only[bC,h1],h2,h3,h4,h5,h6⟩
 | ret=>exact⟨_,ax,S',ι',bS,bV,by simp only[bC,h1],h2,h3,h4,h5,h6⟩
theorem Rp {x:Operand} {t:Bool} (hx:fG te x=some (.val (.bool t))) (h1:t=true→WT P ty aC call yf B L fn fF a te tS Q) (h2:t=false→WT P ty aC call yf B L fn fF b te tS Q):WT P ty aC call yf B L fn fF (.cond x a b) te tS Q:=by
 intro ι env S hR hB
 obtain⟨d,k1,k2⟩:=aS hR.env hx
 cases d<;>simp only[RT] at k2
 subst k2
 cases t with
 | true =>
  obtain⟨e,ax,S',ι',bS,bV,m1,m2⟩:=h1 rfl ι env S hR hB
  exact⟨e,ax,S',ι',bS,bV,by simp only[bC,k1,m1],m2⟩
 | false =>
  obtain⟨e,ax,S',ι',bS,bV,m1,m2⟩:=h2 rfl ι env S hR hB
  exact⟨e,ax,S',ι',bS,bV,by simp only[bC,k1,m1],m2⟩
theorem Oc {id:Nat} (h:WT P ty aC call yf B L fn fF c te tS fun e te tS=>match e with | .exit gJ=>Q (if gJ=id then .normal else .exit gJ) te tS | e=>Q e te tS):WT P ty aC call yf B L fn fF (.block id c) te tS Q:=by
 intro ι env S hR hB
 obtain⟨e,ax,S',ι',bS,bV,h1,h2,h3,h4,h5,h6⟩:=h ι env S hR hB
 cases e with
 | normal=>exact⟨_,ax,S',ι',bS,bV,by simp only[bC,h1],h2,h3,h4,h5,h6⟩
 | exit gJ=>exact⟨_,ax,S',ι',bS,bV,by simp only[bC,h1],h2,h3,h4,h5,h6⟩
 | ret=>exact⟨_,ax,S',ι',bS,bV,by simp only[bC,h1],h2,h3,h4,h5,h6⟩
theorem Rk (hl:s8 j6 te) (hb:Al gT tS) (fT:okB j6 gT=true) (hB:∀ k,k∈B→kX gT k=true) (h:WT P ty aC call yf B L fn fF c j6 gT Q):WT P ty aC call yf B L fn fF c te tS Q:=by
 intro ι env S hR TM
 have JS:=pG hb TM hB
 obtain⟨ι1,h1,h2,-⟩:=o9 hR hl hb fT JS
 obtain⟨e,ax,S',ι',bS,bV,m1,m2,m3,m4,m5⟩:=h ι1 env S h1 JS
 exact⟨e,ax,S',ι',bS,bV,m1,m2,m3,h2.trans m4,m5⟩
structure Fits (B:List Nat) (j6:List TV) (gT:List TB) (te:List TV) (tS:List TB):Prop where
 l:s8 j6 te
 b:Al gT tS
 ok:okB j6 gT=true
 base:∀ k,k∈B→kX gT k=true
theorem N9 {id:Nat} (h:WL P ty aC call yf B ops 0 te tS fun te tS=>Q .normal te (j8 tS)):WT P ty aC call yf B L fn fF (.region id ops false) te tS Q:=by
 intro ι env S hR hB
 obtain⟨ax,S',ι',bS,bV,h1,h2,h3,h4,h5,h6⟩:=h ι env S hR hB
 refine⟨.normal,ax,S',ι',bS,j8 bV,?_,EO h2,Fj h3,h4,h5,h6⟩
 rw[List.drop_zero] at h1
 simp only[bC,lX,Bool.false_eq_true,if_false,h1,Option.map_some]
theorem N7 {id:Nat} (hd:iX ops (Region.before ops)=true) (hl:qY P ops=false) (h:WQ P ty aC call yf ops tS 0 te fun te=>Q .normal te tS):WT P ty aC call yf B L fn fF (.region id ops true) te tS Q:=by
 intro ι env S hR hB
 obtain⟨ax,bS,h1,h2,h3⟩:=h ι env S hR
 refine⟨.normal,ax,S,ι,bS,tS,?_,h2,hB,Fr.refl _ _ _,ew _ _,h3⟩
 rw[List.drop_zero] at h1
 simp only[qY,Bool.or_eq_false_iff] at hl
 simp only[bC,lX,if_true,hd,hl.2,Bool.not_true,Bool.false_eq_true,if_false,h1,Option.map_some]
theorem Ob {id:Nat} (hd:iX ops (Region.before ops)=true) (hn:qY P ops=true) (h:WD P ty aC call yf B ops 0 te (tS++List.replicate ops.size .none) [] fun te tS=>Q .normal te (j8 tS)):WT P ty aC call yf B L fn fF (.region id ops true) te tS Q:=by
 intro ι env S hR hB
 have jX:=R5 hR ops.size ops.size
 obtain⟨w,hw⟩:=Gs jX
 have hB':mo B (tS++List.replicate ops.size .none):=fun k hk=>by
  obtain⟨l,h1⟩:=hB k hk
  exact⟨l,by rw[List.getElem?_append_left (List.getElem?_eq_some_iff.1 h1).1]; exact h1⟩
 obtain⟨ax,S',x5,ι',w',bS,bV,ft,h1,h2,-,h4,h5,h6,h7,h8,h9⟩:=h ι w env (S++List.replicate ops.size .none) S.length jX hB' hw (fun j _ hj=>by
  rw[List.getElem?_append_right (by omega),List.getElem?_replicate,if_pos (by omega)])
 refine⟨.normal,ax,S',ι',bS,j8 bV,?_,EO h5,Fj h6,⟨fun k' hl hno => ?_,fun k k' hk => ?_,h7.base⟩,⟨?_,fun j hj ee => ?_⟩,h9⟩
 ·rw[List.drop_zero] at h1
  simp only[bC,lX,if_true,hd,Bool.not_true,Bool.false_eq_true,if_false,Ld hn,h1,Xv h2 (by simpa using h4),Option.map_some]
 ·have e:=ext_get (n:=ops.size) hl
  rw[h7.rest k' (by obtain⟨b,e1,e2⟩:=hl; exact⟨b,e.trans e1,e2⟩) hno]
  exact e
 ·refine(h7.ours k k' hk).imp (fun e=>e) fun LM hl=>LM ?_
  obtain⟨b,e1,e2⟩:=hl
  exact⟨b,(ext_get ⟨b,e1,e2⟩).trans e1,e2⟩
 ·have:=h8.1
  rw[List.length_append] at this
  omega
 ·have hlt:=(List.getElem?_eq_some_iff.1 ee).1
  exact h8.2 j (fun i _ _=>by omega) (by rw[List.getElem?_append_left hlt]; exact ee)
end
end Go.Tv
end
section
namespace Go.Tv
open Go Go.Di
def Cq:TV→Bool
 | .val v => !(v matches .tuple _)
 | .eu | .sl _ _ _=>true
 | _=>false
def eL:TV→Bool
 | .agg l=>l.all Cq
 | .val _ | .eu | .sl _ _ _=>true
 | _=>false
def mL:TV→TV
 | .sl k l _ => .sl k l .no
 | .eu => .unk
 | v=>v
def iR:Option TT→TV→TV
 | some (.sl e),.eu => .sl e [] .no
 | _,.eu => .unk
 | _,.sl k l _ => .sl k l .no
 | some t,.agg l=>match t.of l with
  | some (x,[]) => .agg (t.cells x)
  | _ => .agg (l.map mL)
 | none,.agg l => .agg (l.map mL)
 | _,v=>v
def aX:List (Option TT)→List TV→List TV
 | _,[]=>[]
 | [],v::l=>iR none v::aX [] l
 | t::ts,v::l=>iR t v::aX ts l
def gy (tt:TypeId→Option TT) (fs:List TV) (argTypes:Array TypeId):List (Option TT):=fs.map (fun _=>none)++argTypes.toList.map tt
variable {P:Program} {ty:eY} {tt:TypeId→Option TT} {ι ι' w:jE} {S S':ak} {te j6:List TV} {env:List DV} {tS gT:List TB} {aC:bk} {call:aW} {yf:dR} {o:Oper} {ay nT:Nat} {B:List Nat} {r:TR} {ops:Array Oper}
mutual
theorem qu:∀ (v:TV) (d:DV),refs v=[]→RT ι S v d→RT ι' S' v d
 | .unk,_,_,_=>by simp only[RT]
 | .val _,d,_,k=>by cases d<;>simp only[RT] at k ⊢; exact k
 | .eu,d,_,k=>by cases d<;>simp only[RT] at k ⊢; exact k
 | .agg l,d,h,k=>by cases d<;>simp only[RT] at k ⊢; exact gE l _ h k
 | .ep l,d,h,k=>by cases d<;>simp only[RT] at k ⊢; exact gE l _ h k
 | .sl t l .no,d,_,k=>by cases d<;>simp only[RT] at k ⊢; exact k
 | .sl t l .full,d,_,k=>by cases d<;>simp only[RT] at k ⊢; exact k
 | .sl t l (.oC g),d,h,k=>by simp[refs] at h
 | .ptr id off,d,h,k=>by simp[refs] at h
 | .cV t l i off,d,_,k=>by cases d<;>simp only[RT] at k ⊢; exact k
 | .mp id,d,h,k=>by simp[refs] at h
 | .so g t,d,h,k=>by simp[refs] at h
 | .sp g t i off,d,h,k=>by simp[refs] at h
 | .fn f a b,d,h,k=>by
  cases d<;>simp only[RT] at k ⊢
  simp only[refs,List.append_eq_nil_iff] at h
  exact⟨k.1,gE a _ h.1 k.2.1,gE b _ h.2 k.2.2⟩
theorem gE:∀ (l:List TV) (m:List DV),gn l=[]→cq ι S l m→cq ι' S' l m
 | [],m,_,k=>by rw[aF k]; exact bI
 | a::l,m,h,k=>by
  obtain⟨d,m',rfl,h1,h2⟩:=ai k
  simp only[gn,List.append_eq_nil_iff] at h
  exact aD (qu a d h.1 h1) (gE l m' h.2 h2)
end
theorem Fw {v:TV} {d:DV} (hp:Cq v=true) (h:RT ι S v d):d.aH.bn=true∧RT ι' S' (mL v) d.aH:=by
 cases v<;>first | (cases hp; done) | skip
 ·cases d<;>simp only[RT] at h
  subst h
  exact⟨hp,by simp only[mL,RT,DV.aH]⟩
 ·cases d<;>simp only[RT] at h
  exact⟨rfl,by simp only[mL,RT]⟩
 ·cases d<;>simp only[RT] at h
  exact⟨rfl,by simp only[mL,RT,DV.aH]; exact⟨h.1,trivial⟩⟩
theorem wK:∀ {l:List TV} {m:List DV},l.all Cq=true→cq ι S l m→(m.map DV.aH).all DV.bn=true∧cq ι' S' (l.map mL) (m.map DV.aH)
 | [],m,_,h=>by rw[aF h]; exact⟨rfl,bI⟩
 | a::l,m,hp,h=>by
  obtain⟨d,m',rfl,h1,h2⟩:=ai h
  simp only[List.all_cons,Bool.and_eq_true] at hp
  obtain⟨k1,k2⟩:=Fw (ι':=ι') (S':=S') hp.1 h1
  obtain⟨k3,k4⟩:=wK hp.2 h2
  exact⟨by simp[k1] at k3 ⊢; exact k3,aD k2 k4⟩
theorem yY:∀ {t:TT} {l:List TV} {x:t.den} {r:List TV} {m:List DV},t.of l=some (x,r)→cq ι S l m→∃ c m',m=c++m'∧cq ι' S' (t.cells x) c∧cq ι S r m'
 | .int k,l,x,r,m,h,hm=>by
  simp only[TT.of] at h
  unfold ofInt at h
  split at h
  ·split at h
   ·rename_i hk
    cases h
    obtain⟨d,m',rfl,h1,h2⟩:=ai hm
    cases d<;>simp only[RT] at h1
    subst h1
    subst hk
    exact⟨[_],m',rfl,dA (by simp only[RT]),h2⟩
   ·cases h
  ·cases h
 | .bool,l,x,r,m,h,hm=>by
  simp only[TT.of] at h
  unfold ofBool at h
  split at h
  ·cases h
   obtain⟨d,m',rfl,h1,h2⟩:=ai hm
   cases d<;>simp only[RT] at h1
   subst h1
   exact⟨[_],m',rfl,dA (by simp only[RT]),h2⟩
  ·cases h
 | .str,l,x,r,m,h,hm=>by
  simp only[TT.of] at h
  unfold ofStr at h
  split at h
  ·cases h
   obtain⟨d,m',rfl,h1,h2⟩:=ai hm
   cases d<;>simp only[RT] at h1
   subst h1
   exact⟨[_],m',rfl,dA (by simp only[RT]),h2⟩
  ·cases h
 | .unit,l,x,r,m,h,hm=>by
  simp only[TT.of] at h
  cases h
  exact⟨[],m,rfl,bI,hm⟩
 | .pair a b,l,x,r,m,h,hm=>by
  simp only[TT.of] at h
  split at h
  ·rename_i x1 r1 h1
   split at h
   ·rename_i y r2 h2
    cases h
    obtain⟨c,m1,rfl,k1,k2⟩:=yY h1 hm
    obtain⟨c',m2,rfl,k3,k4⟩:=yY h2 k2
    exact⟨c++c',m2,by simp,dI k1 k3,k4⟩
   ·cases h
  ·cases h
 | .sl t,l,x,r,m,h,hm=>by
  simp only[TT.of] at h
  unfold QN at h
  split at h
  ·split at h
   ·rename_i ht
    subst ht
    cases h
    obtain⟨d,m',rfl,h1,h2⟩:=ai hm
    cases d<;>simp only[RT] at h1
    exact⟨[_],m',rfl,dA (by simp only[RT]; exact⟨h1.1,trivial⟩),h2⟩
   ·cases h
  ·cases h
   obtain⟨d,m',rfl,h1,h2⟩:=ai hm
   cases d<;>simp only[RT] at h1
   obtain⟨rfl,rfl,rfl⟩:=h1
   exact⟨[_],m',rfl,dA (by simp only[RT,de]; exact⟨trivial,trivial⟩),h2⟩
  ·cases h
theorem jA {t:Option TT} {v:TV} {d:DV} (hp:eL v=true) (h:RT ι S v d):d.strip.pure=true∧(∀ l,d ≠ .ep l)∧RT ι' S' (iR t v) d.strip:=by
 cases v with
 | agg l =>
  cases d<;>simp only[RT] at h
  rename_i m
  obtain⟨k1,k2⟩:=wK (ι':=ι') (S':=S') hp h
  refine⟨k1,fun _ e=>(by cases e),?_⟩
  cases t with
  | none=>simp only[iR,RT,DV.strip,DV.cv]; exact k2
  | some t =>
   have e:iR (some t) (.agg l)=match t.of l with | some (x,[]) => .agg (t.cells x) | _ => .agg (l.map mL):=by cases t<;>rfl
   rw[e]
   split
   ·rename_i x ho
    obtain⟨c,m',rfl,n1,n2⟩:=A4 ho h
    rw[aF n2,List.append_nil]
    simp only[RT,DV.strip,DV.cv]
    exact lH n1
   ·simp only[RT,DV.strip,DV.cv]; exact k2
 | val u =>
  cases d<;>simp only[RT] at h
  rename_i u'
  subst h
  refine⟨rfl,fun _ e=>(by cases e),?_⟩
  have e:iR t (.val u') = .val u':=by cases t with | none=>rfl | some t=>cases t<;>rfl
  rw[e]
  simp only[RT,DV.strip,DV.cv]
 | eu =>
  cases d<;>simp only[RT] at h
  obtain⟨rfl,rfl,rfl⟩:=h
  refine⟨rfl,fun _ e=>(by cases e),?_⟩
  cases t with
  | none=>simp only[iR,RT]
  | some t =>
   cases t with
   | sl e=>simp only[iR,RT,DV.strip,DV.cv,de]; exact⟨trivial,trivial⟩
   | _=>simp only[iR,RT]
 | sl k l ap =>
  cases d<;>simp only[RT] at h
  refine⟨rfl,fun _ e=>(by cases e),?_⟩
  have e:iR t (.sl k l ap) = .sl k l .no:=by cases t with | none=>rfl | some t=>cases t<;>rfl
  rw[e]
  simp only[RT,DV.strip,DV.cv]
  exact⟨h.1,trivial⟩
 | _=>cases hp
theorem sK {t:Option TT} {v:TV} {d:DV} (hp:eL v=true) (h:RT ι S v d):RT ι' S' (iR t v) d:=by
 have n1:∀ {l:List TV} {m:List DV},l.all Cq=true→cq ι S l m→cq ι' S' (l.map mL) m:=by
  intro l
  induction l with
  | nil=>intro m _ h; rw[aF h]; exact bI
  | cons a l ih =>
   intro m hp h
   obtain⟨d,m',rfl,h1,h2⟩:=ai h
   simp only[List.all_cons,Bool.and_eq_true] at hp
   refine aD ?_ (ih hp.2 h2)
   cases a<;>first | (cases hp.1; done) | skip
   ·cases d<;>simp only[RT] at h1
    simp only[mL,RT]; exact h1
   ·simp only[mL,RT]
   ·cases d<;>simp only[RT] at h1
    simp only[mL,RT]; exact⟨h1.1,trivial⟩
 cases v with
 | agg l =>
  cases d<;>simp only[RT] at h
  rename_i m
  cases t with
  | none=>simp only[iR,RT]; exact n1 hp h
  | some t =>
   have e:iR (some t) (.agg l)=match t.of l with | some (x,[]) => .agg (t.cells x) | _ => .agg (l.map mL):=by cases t<;>rfl
   rw[e]
   split
   ·rename_i x ho
    obtain⟨c,m',rfl,k1,k2⟩:=yY (ι':=ι') (S':=S') ho h
    rw[aF k2,List.append_nil]
    simp only[RT]
    exact k1
   ·simp only[RT]; exact n1 hp h
 | val u =>
  cases d<;>simp only[RT] at h
  have e:iR t (.val u) = .val u:=by cases t with | none=>rfl | some t=>cases t<;>rfl
  rw[e]
  simp only[RT]
  exact h
 | eu =>
  cases d<;>simp only[RT] at h
  obtain⟨rfl,rfl,rfl⟩:=h
  cases t with
  | none=>simp only[iR,RT]
  | some t =>
   cases t with
   | sl e=>simp only[iR,RT,de]; exact⟨trivial,trivial⟩
   | _=>simp only[iR,RT]
 | sl k l ap =>
  cases d<;>simp only[RT] at h
  have e:iR t (.sl k l ap) = .sl k l .no:=by cases t with | none=>rfl | some t=>cases t<;>rfl
  rw[e]
  simp only[RT]
  exact⟨h.1,trivial⟩
 | _=>cases hp
theorem iL:∀ {ts:List (Option TT)} {l:List TV} {m:List DV},l.all eL=true→cq ι S l m→(m.map DV.strip).all DV.pure=true∧cq ι' S' (aX ts l) (m.map DV.strip)
 | _,[],m,_,h=>by rw[aF h]; exact⟨rfl,by simp only[aX,List.map_nil]; exact bI⟩
 | [],a::l,m,hp,h=>by
  obtain⟨d,m',rfl,h1,h2⟩:=ai h
  simp only[List.all_cons,Bool.and_eq_true] at hp
  obtain⟨k1,-,k2⟩:=jA (t:=none) (ι':=ι') (S':=S') hp.1 h1
  obtain⟨k3,k4⟩:=iL (ts:=[]) hp.2 h2
  refine⟨?_,by simp only[aX,List.map_cons]; exact aD k2 k4⟩
  rw[List.map_cons,List.all_cons,k1,k3]; rfl
 | t::ts,a::l,m,hp,h=>by
  obtain⟨d,m',rfl,h1,h2⟩:=ai h
  simp only[List.all_cons,Bool.and_eq_true] at hp
  obtain⟨k1,-,k2⟩:=jA (t:=t) (ι':=ι') (S':=S') hp.1 h1
  obtain⟨k3,k4⟩:=iL (ts:=ts) hp.2 h2
  refine⟨?_,by simp only[aX,List.map_cons]; exact aD k2 k4⟩
  rw[List.map_cons,List.all_cons,k1,k3]; rfl
theorem iM:∀ {ts:List (Option TT)} {l:List TV} {m:List DV},l.all eL=true→cq ι S l m→cq ι' S' (aX ts l) m
 | _,[],m,_,h=>by rw[aF h]; simp only[aX]; exact bI
 | [],a::l,m,hp,h=>by
  obtain⟨d,m',rfl,h1,h2⟩:=ai h
  simp only[List.all_cons,Bool.and_eq_true] at hp
  simp only[aX]
  exact aD (sK hp.1 h1) (iM hp.2 h2)
 | t::ts,a::l,m,hp,h=>by
  obtain⟨d,m',rfl,h1,h2⟩:=ai h
  simp only[List.all_cons,Bool.and_eq_true] at hp
  simp only[aX]
  exact aD (sK hp.1 h1) (iM hp.2 h2)
def c9:jE:=fun _=>none
def oS (aC:bk) (g:FuncId) (targs:List TV) (Q:TV→Prop):Prop :=
 ∀ bY,cq c9 [] targs bY→∃ d v,aC g bY=some d∧d.pure=true∧RT c9 [] v d∧refs v=[]∧Q v
theorem oS.mono {g:FuncId} {targs:List TV} {Q Q':TV→Prop} (h:oS aC g targs Q) (hq:∀ v,Q v→Q' v):oS aC g targs Q':=fun bY hd=>by
 obtain⟨d,v,h1,h2,h3,h4,h5⟩:=h bY hd
 exact⟨d,v,h1,h2,h3,h4,hq v h5⟩
theorem jB (hE:cq ι S te env) {f:Operand} {args:Array Operand} {g:FuncId} {fs cs xs:List TV} (hf:fG te f=some (.fn g fs cs)) (ha:lP te args.toList=some xs) :
  ∃ x5 gL JI,ga env f=some (.fn g x5 gL)∧evs (ga env) args.toList=some JI∧cq ι S (fs++xs++cs) (x5++JI++gL):=by
 obtain⟨d,k1,k2⟩:=aS hE hf
 obtain⟨JI,k3,k4⟩:=ql hE ha
 cases d<;>simp only[RT] at k2
 obtain⟨rfl,k5,k6⟩:=k2
 exact⟨_,_,JI,k1,k3,dI (dI k5 k4) k6⟩
theorem z8 {f:Operand} {args:Array Operand} {argTypes:Array TypeId} {g:FuncId} {fs cs xs targs:List TV} {Q:TV→Prop} (hop:o.op = .call { callee := .value f,args,argTypes }) (hh:ty.h o≠1) (hf:fG te f=some (.fn g fs cs)) (ha:lP te args.toList=some xs) (hp:(fs++xs++cs).all eL=true)
  (hn:aX (gy tt fs argTypes) (fs++xs++cs)=targs) (hs:oS aC g targs Q) (dr:Bool):Does P ty aC call yf B o nT te tS dr fun v bS bV ft=>Q v∧bS=te∧bV=tS∧ft=⟨some [],false⟩:=by
 intro ι w env S ay hR hB hw hT PZ hS
 obtain⟨x5,gL,JI,k1,k2,k3⟩:=jB hR.env hf ha
 obtain⟨k4,k5⟩:=iL (ts:=gy tt fs argTypes) (ι':=c9) (S':=[]) hp k3
 rw[hn] at k5
 obtain⟨d,v,m1,m2,m3,m4,m5⟩:=hs _ k5
 refine⟨d,S,ι,w,v,te,tS,⟨some [],false⟩,⟨some [],false⟩,fun _ => ?_,fun hd => ?_,⟨id,fun l hl=>⟨[],rfl,fun j hj=>(by cases hj)⟩⟩,fun l m _ hm j hj=>(by cases hm; cases hj),hR,qu _ _ m4 m3,hw,fun _ _ _=>rfl,Fr.refl _ _ _,hB,ew _ _,m5,rfl,rfl,rfl⟩
 ·simp only[ah,hop,k1,k2,tH,k4,if_true,m1]
 ·simp only[aB,hop,k1,k2,if_neg hh,k4,if_true,m1,Option.map_some]
theorem Oe {k:Nat} {f:Operand} {args:Array Operand} {argTypes:Array TypeId} {g:FuncId} {fs cs xs targs:List TV} {K:TV→Prop} {Q:List TV→Prop} (ho:ops[k]? = some o) (hw:dh ops te o=some true) (hop:o.op = .call { callee := .value f,args,argTypes }) (hh:ty.h o≠1) (hf:fG te f=some (.fn g fs cs)) (ha:lP te args.toList=some xs) (hp:(fs++xs++cs).all eL=true)
  (hn:aX (gy tt fs argTypes) (fs++xs++cs)=targs) (hs:oS aC g targs K) (h:∀ v,K v→WQ P ty aC call yf ops tS (k+1) (j9 te o.dst v) Q):WQ P ty aC call yf ops tS k te Q:=by
 intro ι env S hR
 obtain⟨x5,gL,JI,k1,k2,k3⟩:=jB hR.env hf ha
 obtain⟨k4,k5⟩:=iL (ts:=gy tt fs argTypes) (ι':=c9) (S':=[]) hp k3
 rw[hn] at k5
 obtain⟨d,v,m1,m2,m3,m4,m5⟩:=hs _ k5
 obtain⟨ax,bS,n1,n2,n3⟩:=h v m5 ι (eP env o.dst d) S (kC hR (qu _ _ m4 m3) _)
 refine⟨ax,bS,?_,n2,n3⟩
 rw[kG ho]
 have hq:b7 P ty aC call yf (ga env) o S=some d:=by simp only[b7,hop,k1,k2,if_neg hh,k4,if_true,m1]
 simp only[mq,fB hR.env hw,if_true,hq,n1]
def isRef:TV→Bool
 | .ptr _ _ | .fn _ _ _=>true
 | _=>false
def Q8 (kp:Nat) (t:Option TT):TV→Option TV
 | .ptr k off=>if k=kp then some (.ptr 0 off) else none
 | v=>if eL v then some (iR t v) else none
def En (kp:Nat):List TV→Option (List TV)
 | []=>some []
 | v::l=>match Q8 kp none v,En kp l with
  | some a,some b=>some (a::b)
  | _,_=>none
def Rb (kp:Nat) (t:Option TT):TV→Option TV
 | .fn g fs cs=>match En kp fs,En kp cs with
  | some a,some b=>some (.fn g a b)
  | _,_=>none
 | v=>Q8 kp t v
def tI (kp:Nat):List (Option TT)→List TV→Option (List TV)
 | _,[]=>some []
 | [],v::l=>match Rb kp none v,tI kp [] l with
  | some a,some b=>some (a::b)
  | _,_=>none
 | t::ts,v::l=>match Rb kp t v,tI kp ts l with
  | some a,some b=>some (a::b)
  | _,_=>none
def gW (id:Nat):jE:=fun j=>if j=0 then some id else none
theorem Jz {kp id:Nat} {t:Option TT} {v v':TV} {d:DV} (hk:ι kp=some id) (h:Q8 kp t v=some v') (hv:RT ι S v d):RT (gW id) S v' d:=by
 unfold Q8 at h
 split at h
 ·split at h
  ·rename_i k off JO
   subst JO
   cases h
   cases d<;>simp only[RT] at hv ⊢
   rw[hk] at hv
   exact⟨hv.1,hv.2⟩
  ·cases h
 ·split at h
  ·rename_i hp
   cases h
   exact sK hp hv
  ·cases h
theorem zo {kp id:Nat} (hk:ι kp=some id):∀ {l l':List TV} {m:List DV},En kp l=some l'→cq ι S l m→cq (gW id) S l' m
 | [],l',m,h,hv=>by cases h; rw[aF hv]; exact bI
 | v::l,l',m,h,hv=>by
  obtain⟨d,m',rfl,h1,h2⟩:=ai hv
  simp only[En] at h
  split at h
  ·rename_i a b e1 e2
   cases h
   exact aD (Jz hk e1 h1) (zo hk e2 h2)
  ·cases h
theorem JC {kp id:Nat} {t:Option TT} {v v':TV} {d:DV} (hk:ι kp=some id) (h:Rb kp t v=some v') (hv:RT ι S v d):RT (gW id) S v' d:=by
 unfold Rb at h
 split at h
 ·split at h
  ·rename_i g fs cs a b e1 e2
   cases h
   cases d<;>simp only[RT] at hv ⊢
   exact⟨hv.1,zo hk e1 hv.2.1,zo hk e2 hv.2.2⟩
  ·cases h
 ·exact Jz hk h hv
theorem zu {kp id:Nat} (hk:ι kp=some id):∀ {ts:List (Option TT)} {l l':List TV} {m:List DV},tI kp ts l=some l'→cq ι S l m→cq (gW id) S l' m
 | _,[],l',m,h,hv=>by simp only[tI] at h; cases h; rw[aF hv]; exact bI
 | [],v::l,l',m,h,hv=>by
  obtain⟨d,m',rfl,h1,h2⟩:=ai hv
  simp only[tI] at h
  split at h
  ·rename_i a b e1 e2
   cases h
   exact aD (JC hk e1 h1) (zu hk e2 h2)
  ·cases h
 | t::ts,v::l,l',m,h,hv=>by
  obtain⟨d,m',rfl,h1,h2⟩:=ai hv
  simp only[tI] at h
  split at h
  ·rename_i a b e1 e2
   cases h
   exact aD (JC hk e1 h1) (zu hk e2 h2)
  ·cases h
theorem sC:∀ {l:List TV} {m:List DV},l.any isRef=true→cq ι S l m→(m.map DV.strip).all DV.pure=false
 | [],_,h,_=>by cases h
 | v::l,m,h,hv=>by
  obtain⟨d,m',rfl,h1,h2⟩:=ai hv
  simp only[List.any_cons,Bool.or_eq_true] at h
  rw[List.map_cons,List.all_cons]
  rcases h with h | h
  ·cases v<;>first | (cases h; done) | skip
   ·cases d<;>simp only[RT] at h1; rfl
   ·cases d<;>simp only[RT] at h1; rfl
  ·rw[sC h h2,Bool.and_false]
def wG (call:aW) (g:FuncId) (targs ts:List TV) (Q:TV→List TV→Prop):Prop :=
 ∀ ι bY S,bL ι targs [.cells ts] bY S→∃ d S' ι' v qG k' eM,call g bY S=some (d,S')∧RT ι' S' v d∧refs v=[]∧gn qG=[]∧ι 0=some k'∧S'[k']? = some (.cells eM)∧cq ι' S' qG eM∧Fr [0] ι S ι' S'∧Nn S.length S S'∧Q v qG
theorem wG.mono {g:FuncId} {targs ts:List TV} {Q Q':TV→List TV→Prop} (h:wG call g targs ts Q) (hq:∀ v ts,Q v ts→Q' v ts):wG call g targs ts Q':=fun ι bY S hd=>by
 obtain⟨d,S',ι',v,qG,k',eM,h1,h2,h3,h4,h5,h6,h7,h8,h9,uU⟩:=h ι bY S hd
 exact⟨d,S',ι',v,qG,k',eM,h1,h2,h3,h4,h5,h6,h7,h8,h9,hq _ _ uU⟩
theorem HO {f:Operand} {args:Array Operand} {argTypes:Array TypeId} {g:FuncId} {fs cs xs targs ts:List TV} {kp:Nat} {Q:TV→List TV→Prop} (hop:o.op = .call { callee := .value f,args,argTypes }) (hh:ty.h o≠1) (hf:fG te f=some (.fn g fs cs)) (ha:lP te args.toList=some xs)
  (hn:tI kp (gy tt fs argTypes) (fs++xs++cs)=some targs) (hr:(fs++xs++cs).any isRef=true) (U3:tS[kp]? = some (.cells ts)) (LK:gn ts=[]) (hs:wG call g targs ts Q):Does P ty aC call yf B o nT te tS false fun v bS bV ft=>∃ qG,Q v qG∧bS=te∧bV=tS.set kp (.cells qG)∧ft=⟨none,true⟩:=by
 intro ι w env S ay hR hB hw hT PZ hS
 obtain⟨x5,gL,JI,k1,k2,k3⟩:=jB hR.env hf ha
 obtain⟨gJ,ds,k6,m2,m3⟩:=hR.cells kp ts U3
 have hc:bL (gW gJ) targs [.cells ts] (x5++JI++gL) S:=by
  refine⟨zu k6 hn k3,fun k l hk => ?_,fun k e s hk => ?_,fun k k' hk => ?_,fun i j k' hi hj => ?_,fun k b hk t ht=>by cases k with | zero=>cases hk; trivial | succ k=>simp at hk⟩
  ·cases k with
   | zero =>
    cases hk
    exact⟨gJ,ds,rfl,m2,gE _ _ LK m3⟩
   | succ k=>simp at hk
  ·cases k<;>simp at hk
  ·by_cases h0:k=0
   ·subst h0; exact⟨_,rfl,fun e=>by cases e⟩
   ·simp only[gW,h0,if_false] at hk; cases hk
  ·by_cases x4:i=0<;>by_cases JP:j=0
   ·rw[x4,JP]
   ·simp only[gW,JP,if_false] at hj; cases hj
   ·simp only[gW,x4,if_false] at hi; cases hi
   ·simp only[gW,x4,if_false] at hi; cases hi
 obtain⟨d,S',ι',v,qG,k',eM,n1,n2,n3,n4,n5,n6,n7,n8,n9,n10⟩:=hs _ _ S hc
 simp only[gW,if_true,Option.some.injEq] at n5
 subst n5
 have om:∀ k k0,k≠kp→ι k=some k0→S'[k0]? = S[k0]? := by
  intro k k0 hk h0
  refine n8.rest k0 (hR.live h0) fun j hj => ?_
  by_cases JP:j=0
  ·subst JP
   simp only[gW,if_true,Option.some.injEq] at hj
   subst hj
   exact hk (hR.inj _ _ _ h0 k6)
  ·simp only[gW,JP,if_false] at hj; cases hj
 have K:jo ι S ι S' fun _=>False:=fun k k0 _ hk=>⟨hk,by
  by_cases JO:k=kp
  ·subst JO
   rw[k6] at hk
   cases hk
   exact tR (by rw[m2]; simp) (by rw[m2]; simp)
  ·exact dX (om k k0 JO hk)⟩
 have YU:=sC hr k3
 refine⟨d,S',ι,w,v,te,tS.set kp (.cells qG),⟨none,true⟩,⟨none,true⟩,fun _ => ?_,fun hd=>(by cases hd),⟨fun e=>e,fun l hl=>(by cases hl)⟩,fun l m hl=>(by cases hl),?_,qu _ _ n3 n2,hw,fun _ _ _=>rfl,⟨fun k0 hl hno=>n8.rest k0 hl fun j hj => ?_,fun k k0 hk => .inl ⟨k,hk⟩,fun _ _=>rfl⟩,fun k hk => ?_,⟨n9.1,fun j hj ee => ?_⟩,qG,n10,rfl,rfl,rfl⟩
 ·simp only[ah,hop,k1,k2,tH,YU,Bool.false_eq_true,if_false,n1]
 ·refine⟨aY K _ _ hR.env,fun k l hk => ?_,fun k e s hk t ht => ?_,fun k k0 hk => ?_,hR.inj,fun k b hk t ht=>by
   rw[List.getElem?_set] at hk
   split at hk
   ·split at hk<;>cases hk
    trivial
   ·rename_i e1
    rw[om k t (fun e=>e1 e.symm) ht]; exact hR.mp k b hk t ht⟩
  ·rw[List.getElem?_set] at hk
   split at hk
   ·rename_i e1
    subst e1
    split at hk
    ·cases hk
     exact⟨gJ,eM,k6,n6,gE _ _ n4 n7⟩
    ·cases hk
   ·rename_i e1
    obtain⟨k0,JU,q1,q2,q3⟩:=hR.cells k l hk
    exact⟨k0,JU,q1,by rw[om k k0 (Ne.symm e1) q1]; exact q2,aY K _ _ q3⟩
  ·rw[List.getElem?_set] at hk
   split at hk
   ·split at hk<;>cases hk
   ·obtain⟨n,q1⟩:=hR.own k e s hk t ht
    exact⟨n,(K k t (fun e=>e) ht).2.1 _ _ _ q1⟩
  ·rw[List.getElem?_set]
   split
   ·rename_i e1
    subst e1
    exact⟨_,if_pos (List.getElem?_eq_some_iff.1 U3).1,fun e=>by cases e⟩
   ·exact hR.uP k k0 hk
 ·by_cases JP:j=0
  ·subst JP
   simp only[gW,if_true,Option.some.injEq] at hj
   subst hj
   exact hno _ k6
  ·simp only[gW,JP,if_false] at hj; cases hj
 ·rw[List.getElem?_set]
  split
  ·rename_i e1
   subst e1
   exact⟨_,if_pos (List.getElem?_eq_some_iff.1 U3).1⟩
  ·exact hB k hk
 ·have:=(List.getElem?_eq_some_iff.1 ee).1
  exact n9.2 j (by omega) ee
def tF:TV→Bool
 | .val v => !(v matches .tuple _)
 | .sl _ _ .no=>true
 | _=>false
def Ej:TV→Bool
 | .agg l=>l.all tF
 | .val _ | .sl _ _ .no=>true
 | _=>false
def Iz:TV→Bool
 | .ep l=>l.all Ej
 | v=>Ej v
theorem FN {v:TV} {d:DV} (hp:tF v=true) (h:RT ι S v d):d.aH.bn=true∧RT ι' S' v d.aH:=by
 cases v<;>first | (cases hp; done) | skip
 ·cases d<;>simp only[RT] at h
  subst h
  exact⟨hp,by simp only[RT,DV.aH]⟩
 ·rename_i t l ap
  cases ap<;>first | (cases hp; done) | skip
  cases d<;>simp only[RT] at h
  exact⟨rfl,by simp only[RT,DV.aH]; exact⟨h.1,trivial⟩⟩
theorem kJ:∀ {l:List TV} {m:List DV},l.all tF=true→cq ι S l m→(m.map DV.aH).all DV.bn=true∧cq ι' S' l (m.map DV.aH)
 | [],m,_,h=>by rw[aF h]; exact⟨rfl,bI⟩
 | a::l,m,hp,h=>by
  obtain⟨d,m',rfl,h1,h2⟩:=ai h
  simp only[List.all_cons,Bool.and_eq_true] at hp
  obtain⟨k1,k2⟩:=FN (ι':=ι') (S':=S') hp.1 h1
  obtain⟨k3,k4⟩:=kJ hp.2 h2
  exact⟨by rw[List.map_cons,List.all_cons,k1,k3]; rfl,aD k2 k4⟩
theorem wY {v:TV} {d:DV} (hp:Ej v=true) (h:RT ι S v d):d.cv.gV=true∧RT ι' S' v d.cv:=by
 cases v<;>first | (cases hp; done) | skip
 ·cases d<;>simp only[RT] at h
  subst h
  exact⟨rfl,by simp only[RT,DV.cv]⟩
 ·cases d<;>simp only[RT] at h
  obtain⟨k1,k2⟩:=kJ (ι':=ι') (S':=S') hp h
  exact⟨k1,by simp only[RT,DV.cv]; exact k2⟩
 ·rename_i t l ap
  cases ap<;>first | (cases hp; done) | skip
  cases d<;>simp only[RT] at h
  exact⟨rfl,by simp only[RT,DV.cv]; exact⟨h.1,trivial⟩⟩
theorem uL:∀ {l:List TV} {m:List DV},l.all Ej=true→cq ι S l m→(m.map DV.cv).all DV.gV=true∧cq ι' S' l (m.map DV.cv)
 | [],m,_,h=>by rw[aF h]; exact⟨rfl,bI⟩
 | a::l,m,hp,h=>by
  obtain⟨d,m',rfl,h1,h2⟩:=ai h
  simp only[List.all_cons,Bool.and_eq_true] at hp
  obtain⟨k1,k2⟩:=wY (ι':=ι') (S':=S') hp.1 h1
  obtain⟨k3,k4⟩:=uL hp.2 h2
  exact⟨by rw[List.map_cons,List.all_cons,k1,k3]; rfl,aD k2 k4⟩
theorem FM {v:TV} {d:DV} (hp:Iz v=true) (h:RT ι S v d):d.strip.pure=true∧RT ι' S' v d.strip:=by
 by_cases hd:∃ l,d = .ep l
 ·obtain⟨m,rfl⟩:=hd
  cases v<;>simp only[RT] at h<;>first | (cases hp; done) | skip
  obtain⟨k1,k2⟩:=uL (ι':=ι') (S':=S') hp h
  exact⟨k1,by simp only[RT,DV.strip]; exact k2⟩
 ·have hv:Ej v=true:=by
   cases v<;>first | exact hp | skip
   cases d<;>simp only[RT] at h
   exact(hd ⟨_,rfl⟩).elim
  obtain⟨k1,k2⟩:=wY (ι':=ι') (S':=S') hv h
  have e:d.strip=d.cv:=by cases d<;>first | rfl | exact(hd ⟨_,rfl⟩).elim
  refine⟨?_,by rw[e]; exact k2⟩
  rw[e]
  have:∀ c:DV,c.gV=true→(∀ l,c ≠ .ep l)→c.pure=true:=fun c h hn=>by cases c<;>first | exact h | exact(hn _ rfl).elim
  refine this _ k1 fun l hl => ?_
  cases d<;>simp only[DV.cv] at hl<;>first | (cases hl; done) | exact hd ⟨_,rfl⟩
theorem FP {f:Operand} {args:Array Operand} {argTypes:Array TypeId} {g:FuncId} {fs cs xs rest ts:List TV} {kp off:Nat} {Q:TV→List TV→Prop} (hop:o.op = .call { callee := .value f,args,argTypes }) (hh:ty.h o≠1) (hf:fG te f=some (.fn g fs cs)) (ha:lP te args.toList=some xs)
  (hl:fs++xs++cs = .ptr kp off::rest) (hp:rest.all eL=true) (U3:tS[kp]? = some (.cells ts)) (s7:ts.all tF=true) (hs:wG call g (.ptr 0 off::aX (gy tt fs argTypes).tail rest) ts Q) (hq:∀ v qG,Q v qG→Iz v=true∧qG.all tF=true) :
  Does P ty aC call yf B o nT te tS true fun v bS bV ft=>∃ qG,Q v qG∧bS=te∧bV=tS.set kp (.cells qG)∧ft=⟨some [kp],true⟩:=by
 intro ι w env S ay hR hB hw hT PZ hS
 obtain⟨x5,gL,JI,k1,k2,k3⟩:=jB hR.env hf ha
 obtain⟨gJ,ds,k6,m2,m3⟩:=hR.cells kp ts U3
 rw[hl] at k3
 obtain⟨d0,m0,hm0,JM,F8⟩:=ai k3
 have Gc:d0 = .ptr gJ off:=by
  cases d0<;>simp only[RT] at JM
  obtain⟨e1,e2⟩:=JM
  rw[k6] at e1
  cases e1
  rw[e2]
 subst Gc
 obtain⟨p1,p2⟩:=iL (ts:=(gy tt fs argTypes).tail) (ι':=gW 0) (S':=[.cells (ds.map DV.aH)]) hp F8
 obtain⟨c1,c2⟩:=kJ (ι':=gW 0) (S':=[.cells (ds.map DV.aH)]) s7 m3
 have hc:bL (gW 0) (.ptr 0 off::aX (gy tt fs argTypes).tail rest) [.cells ts] (.ptr 0 off::m0.map DV.strip) [.cells (ds.map DV.aH)]:=by
  refine⟨aD (by simp only[RT]; exact⟨rfl,trivial⟩) p2,fun k l hk => ?_,fun k e s hk => ?_,fun k k' hk => ?_,fun i j k' hi hj => ?_,fun k b hk t ht=>by cases k with | zero=>cases hk; trivial | succ k=>simp at hk⟩
  ·cases k with
   | zero =>
    cases hk
    exact⟨0,_,rfl,rfl,c2⟩
   | succ k=>simp at hk
  ·cases k<;>simp at hk
  ·by_cases h0:k=0
   ·subst h0; exact⟨_,rfl,fun e=>by cases e⟩
   ·simp only[gW,h0,if_false] at hk; cases hk
  ·by_cases x4:i=0<;>by_cases JP:j=0
   ·rw[x4,JP]
   ·simp only[gW,JP,if_false] at hj; cases hj
   ·simp only[gW,x4,if_false] at hi; cases hi
   ·simp only[gW,x4,if_false] at hi; cases hi
 obtain⟨d,S1,ι1,v,qG,k',eM,n1,n2,n3,n4,n5,n6,n7,n8,n9,n10⟩:=hs _ _ _ hc
 simp only[gW,if_true,Option.some.injEq] at n5
 subst n5
 obtain⟨q1,q2⟩:=hq _ _ n10
 obtain⟨r1,r2⟩:=FM (ι':=ι) (S':=S.set gJ (.cells (eM.map DV.aH))) q1 n2
 obtain⟨r3,r4⟩:=kJ (ι':=ι) (S':=S.set gJ (.cells (eM.map DV.aH))) q2 n7
 have aaY:∃ T,S1 = .cells eM::T:=by
  cases S1 with
  | nil=>simp at n6
  | cons a T=>simp only[List.getElem?_cons_zero,Option.some.injEq] at n6; exact⟨T,by rw[n6]⟩
 obtain⟨T,rfl⟩:=aaY
 have hid:gJ<S.length:=(List.getElem?_eq_some_iff.1 m2).1
 have om:∀ k0,k0≠gJ→(S.set gJ (.cells (eM.map DV.aH)))[k0]? = S[k0]? := fun k0 h=>by rw[List.getElem?_set,if_neg fun e=>h e.symm]
 have hkp:∀ k,k≠kp→∀ k0,ι k=some k0→k0≠gJ:=fun k hk k0 h0 e=>hk (hR.inj _ _ _ (e▸h0) k6)
 have K:jo ι S ι (S.set gJ (.cells (eM.map DV.aH))) fun _=>False:=fun k k0 _ hk=>⟨hk,by
  by_cases JO:k0=gJ
  ·subst JO
   exact tR (by rw[m2]; simp) (by rw[m2]; simp)
  ·exact dX (om k0 JO)⟩
 have YU:((x5++JI++gL).map DV.strip).all DV.pure=false:=by rw[hm0]; rfl
 have ho:wq call g (x5++JI++gL) S=some (gJ,d.strip,eM.map DV.aH):=by
  rw[hm0]
  simp only[wq,m2,p1,c1,Bool.and_self,if_true,n1,r1,r3]
 refine⟨d.strip,S.set gJ (.cells (eM.map DV.aH)),ι,w,v,te,tS.set kp (.cells qG),⟨some [gJ],true⟩,⟨some [kp],true⟩,fun hd=>(by cases hd),fun _ => ?_,⟨fun e=>e,fun l hl => ?_⟩,fun l m hl hm j hj => ?_,?_,r2,hw,fun _ _ _=>rfl,⟨fun k0 hl hno=>om k0 fun e=>hno _ (e▸k6),fun k k0 hk => .inl ⟨k,hk⟩,fun _ _=>rfl⟩,fun k hk => ?_,⟨by simp,fun j hj ee => ?_⟩,qG,n10,rfl,rfl,rfl⟩
 ·simp only[aB,hop,k1,k2,if_neg hh,YU,Bool.false_eq_true,if_false,ho]
 ·cases hl
  exact⟨[gJ],rfl,fun j hj=>⟨kp,by simp,by simp only[List.mem_singleton] at hj; rw[hj]; exact hw _ _ k6⟩⟩
 ·cases hm
  simp only[List.mem_singleton] at hj
  exact .inr ⟨kp,hj▸k6⟩
 ·refine⟨aY K _ _ hR.env,fun k l hk => ?_,fun k e s hk t ht => ?_,fun k k0 hk => ?_,hR.inj,fun k b hk t ht=>by
   rw[List.getElem?_set] at hk
   split at hk
   ·split at hk<;>cases hk
    trivial
   ·rename_i e1
    rw[om t (hkp k (fun e=>e1 e.symm) t ht)]; exact hR.mp k b hk t ht⟩
  ·rw[List.getElem?_set] at hk
   split at hk
   ·rename_i e1
    subst e1
    split at hk
    ·cases hk
     exact⟨gJ,_,k6,by rw[List.getElem?_set,if_pos rfl,if_pos hid],r4⟩
    ·cases hk
   ·rename_i e1
    obtain⟨k0,JU,q1,q2,q3⟩:=hR.cells k l hk
    exact⟨k0,JU,q1,by rw[om k0 (hkp k (Ne.symm e1) k0 q1)]; exact q2,aY K _ _ q3⟩
  ·rw[List.getElem?_set] at hk
   split at hk
   ·split at hk<;>cases hk
   ·obtain⟨n,q1⟩:=hR.own k e s hk t ht
    exact⟨n,(K k t (fun e=>e) ht).2.1 _ _ _ q1⟩
  ·rw[List.getElem?_set]
   split
   ·rename_i e1
    subst e1
    exact⟨_,if_pos (List.getElem?_eq_some_iff.1 U3).1,fun e=>by cases e⟩
   ·exact hR.uP k k0 hk
 ·rw[List.getElem?_set]
  split
  ·rename_i e1
   subst e1
   exact⟨_,if_pos (List.getElem?_eq_some_iff.1 U3).1⟩
  ·exact hB k hk
 ·rw[om j]
  ·exact ee
  ·intro e
   rw[e,m2] at ee
   cases ee
end Go.Tv
end
