import Derived.Test.YtedcgbkilmlbhaaGreatPk03
section
namespace Go.Tv
open Go Go.Di
def lE:List TB→List TB
 | []=>[]
 | b::l=>match lE l,b with
  | [],.none=>[]
  | l',b=>b::l'
theorem DT:∀ tS:List TB,∃ n,tS=lE tS++List.replicate n .none
 | []=>⟨0,rfl⟩
 | b::l=>by
  obtain⟨n,h⟩:=DT l
  simp only[lE]
  split
  ·rename_i e
   rw[e] at h
   exact⟨n+1,by rw[h]; rfl⟩
  ·exact⟨n,by rw[List.cons_append,← h]⟩
inductive uE:List TV→List TV→Prop
 | nil:uE [] []
 | unk {v:TV} {l m:List TV}:uE l m→uE (.unk::l) (v::m)
 | same {v:TV} {l m:List TV}:uE l m→uE (v::l) (v::m)
 | no {t:TT} {x:List t.den} {ap:Ap} {l m:List TV}:uE l m→uE (.sl t x .no::l) (.sl t x ap::m)
 | oR {t:TT} {g:Nat} {l m:List TV}:uE l m→uE (.sl t [] (.oR g)::l) (.sl t [] .full::m)
 | gY {t:TT} {ap:Ap} {l m:List TV}:uE l m→uE (.sl t [] ap::l) (.gY::m)
 | agg {a b l m:List TV}:uE a b→uE l m→uE (.agg a::l) (.agg b::m)
theorem uE.refl:∀ l:List TV,uE l l
 | [] => .nil
 | _::l => .same (uE.refl l)
mutual
def refs:TV→List Nat
 | .sl _ _ (.oR g)=>[g]
 | .ptr id _=>[id]
 | .mp id=>[id]
 | .so g _=>[g]
 | .sp g _ _ _=>[g]
 | .agg l=>gh l
 | .tup l=>gh l
 | .fn _ a b=>gh a++gh b
 | _=>[]
def gh:List TV→List Nat
 | []=>[]
 | a::l=>refs a++gh l
end
inductive Bx:List TB→List TB→Prop
 | nil {l:List TB}:Bx [] l
 | none {b:TB} {l m:List TB}:Bx l m→Bx (.none::l) (b::m)
 | own {e s:Nat} {l m:List TB}:Bx l m→Bx (.own e s::l) (.own e s::m)
 | new {e s:Nat} {l:List TB}:Bx l []→Bx (.own e s::l) []
 | cells {a b:List TV} {l m:List TB}:uE a b→Bx l m→Bx (.cells a::l) (.cells b::m)
 | map {kt:TT} {c:List kt.den} {l m:List TB}:Bx l m→Bx (.map kt c::l) (.map kt c::m)
 | rows {t:TT} {e:Nat} {c:List t.den} {z:Bool} {l m:List TB}:Bx l m→Bx (.rows t e c z::l) (.rows t e c z::m)
def mK (tS:List TB) (k:Nat):Bool :=
 match tS[k]? with
 | some .none | none=>false
 | _=>true
def Ca:List TB→List Nat
 | []=>[]
 | .cells a::l=>gh a++Ca l
 | _::l=>Ca l
def okB (te:List TV) (tS:List TB):Bool:=(gh te++Ca tS).all (mK tS)
variable {P:Program} {ty:fI} {tt:TypeId→Option TT} {ι ι' w:lK} {S S':ak} {te mm:List TV} {env:List DV} {tS iT:List TB} {aI:bM} {call:bz} {yf:eE} {o:Oper} {ay nT:Nat} {B:List Nat} {r:TR} {ops:Array Oper}
theorem H7 {l m:List TV} (h:uE l m):∀ {ds:List DV},cQ ι S m ds→cQ ι S l ds:=by
 induction h with
 | nil=>exact id
 | unk _ ih=>intro ds hd; obtain⟨d,m',rfl,h1,h2⟩:=ax hd; exact aV (by simp only[RT]) (ih h2)
 | same _ ih=>intro ds hd; obtain⟨d,m',rfl,h1,h2⟩:=ax hd; exact aV h1 (ih h2)
 | no _ ih =>
  intro ds hd
  obtain⟨d,m',rfl,h1,h2⟩:=ax hd
  refine aV ?_ (ih h2)
  cases d<;>simp only[RT] at h1 ⊢
  exact⟨h1.1,trivial⟩
 | oR _ ih =>
  intro ds hd
  obtain⟨d,m',rfl,h1,h2⟩:=ax hd
  refine aV ?_ (ih h2)
  cases d<;>simp only[RT] at h1 ⊢
  exact⟨h1.1,.inl ⟨h1.2.1,h1.2.2,ja h1.1⟩⟩
 | gY _ ih =>
  rename_i ap _ _ _
  intro ds hd
  obtain⟨d,m',rfl,h1,h2⟩:=ax hd
  refine aV ?_ (ih h2)
  cases d<;>simp only[RT] at h1 ⊢
  obtain⟨rfl,rfl,rfl⟩:=h1
  refine⟨trivial,?_⟩
  cases ap with
  | no=>trivial
  | full=>exact⟨rfl,rfl⟩
  | oR g=>exact .inl ⟨rfl,rfl,rfl⟩
 | agg _ _ K0 MJ =>
  intro ds hd
  obtain⟨d,m',rfl,h1,h2⟩:=ax hd
  refine aV ?_ (MJ h2)
  cases d<;>simp only[RT] at h1 ⊢
  exact K0 h1
mutual
theorem S8:∀ (v:TV) (d:DV),(∀ k∈refs v,ι' k=ι k)→RT ι S v d→RT ι' S v d
 | .unk,_,_,_=>by simp only[RT]
 | .val _,d,_,k=>by cases d<;>simp only[RT] at k ⊢; exact k
 | .gY,d,_,k=>by cases d<;>simp only[RT] at k ⊢; exact k
 | .agg l,d,h,k=>by cases d<;>simp only[RT] at k ⊢; exact mU l _ h k
 | .tup l,d,h,k=>by cases d<;>simp only[RT] at k ⊢; exact mU l _ h k
 | .sl t l .no,d,_,k=>by cases d<;>simp only[RT] at k ⊢; exact k
 | .sl t l .full,d,_,k=>by cases d<;>simp only[RT] at k ⊢; exact k
 | .sl t l (.oR g),d,h,k=>by
  cases d<;>simp only[RT,tH] at k ⊢
  rw[h g (by simp[refs])]
  exact k
 | .ptr id off,d,h,k=>by
  cases d<;>simp only[RT] at k ⊢
  rw[h id (by simp[refs])]
  exact k
 | .ey t l i off,d,_,k=>by cases d<;>simp only[RT] at k ⊢; exact k
 | .mp id,d,h,k=>by
  cases d<;>simp only[RT] at k ⊢
  rw[h id (by simp[refs])]
  exact k
 | .so g t,d,h,k=>by
  cases d<;>simp only[RT] at k ⊢
  rw[h g (by simp[refs])]
  exact k
 | .sp g t i off,d,h,k=>by
  cases d<;>simp only[RT] at k ⊢
  rw[h g (by simp[refs])]
  exact k
 | .fn f a b,d,h,k=>by
  cases d<;>simp only[RT] at k ⊢
  exact⟨k.1,mU a _ (fun j hj=>h j (by simp[refs,hj])) k.2.1,mU b _ (fun j hj=>h j (by simp[refs,hj])) k.2.2⟩
theorem mU:∀ (l:List TV) (m:List DV),(∀ k∈gh l,ι' k=ι k)→cQ ι S l m→cQ ι' S l m
 | [],m,_,k=>by rw[aU k]; exact bS
 | a::l,m,h,k=>by
  obtain⟨d,m',rfl,h1,h2⟩:=ax k
  exact aV (S8 a d (fun j hj=>h j (by simp[gh,hj])) h1) (mU l m' (fun j hj=>h j (by simp[gh,hj])) h2)
end
theorem zk {l m:List TB} (h:Bx l m):∀ {k:Nat} {b:TB},l[k]? = some b→b = .none∨(∃ e s,b = .own e s∧(m[k]? = some (.own e s)∨m[k]? = none))∨(∃ a c,b = .cells a∧m[k]? = some (.cells c)∧uE a c)∨(m[k]? = some b∧(∀ l,b ≠ .cells l)∧∀ e s,b ≠ .own e s):=by
 induction h with
 | nil=>intro k b hb; simp at hb
 | none _ ih =>
  intro k b hb
  cases k with
  | zero=>simp only[List.getElem?_cons_zero,az] at hb; exact .inl hb.symm
  | succ k=>simpa using ih (k:=k) (by simpa using hb)
 | own _ ih =>
  intro k b hb
  cases k with
  | zero=>simp only[List.getElem?_cons_zero,az] at hb; subst hb; exact .inr (.inl ⟨_,_,rfl,.inl rfl⟩)
  | succ k=>simpa using ih (k:=k) (by simpa using hb)
 | new _ ih =>
  intro k b hb
  cases k with
  | zero=>simp only[List.getElem?_cons_zero,az] at hb; subst hb; exact .inr (.inl ⟨_,_,rfl,.inr rfl⟩)
  | succ k=>simpa using ih (k:=k) (by simpa using hb)
 | cells hl _ ih =>
  intro k b hb
  cases k with
  | zero=>simp only[List.getElem?_cons_zero,az] at hb; subst hb; exact .inr (.inr (.inl ⟨_,_,rfl,rfl,hl⟩))
  | succ k=>simpa using ih (k:=k) (by simpa using hb)
 | map _ ih =>
  intro k b hb
  cases k with
  | zero=>simp only[List.getElem?_cons_zero,az] at hb; subst hb; exact .inr (.inr (.inr ⟨rfl,by simp,by simp⟩))
  | succ k=>simpa using ih (k:=k) (by simpa using hb)
 | rows _ ih =>
  intro k b hb
  cases k with
  | zero=>simp only[List.getElem?_cons_zero,az] at hb; subst hb; exact .inr (.inr (.inr ⟨rfl,by simp,by simp⟩))
  | succ k=>simpa using ih (k:=k) (by simpa using hb)
theorem CK {k:Nat} {a:List TV}:∀ {tS:List TB} {j:Nat},tS[j]? = some (.cells a)→k∈gh a→k∈Ca tS
 | [],_,h,_=>by simp at h
 | b::l,0,h,hk=>by
  simp only[List.getElem?_cons_zero,az] at h
  subst h
  simp[Ca,hk]
 | b::l,j+1,h,hk=>by
  have:=CK (tS:=l) (j:=j) (by simpa using h) hk
  cases b<;>simp[Ca,this]
theorem As (h:b9 ι te tS env S) (hl:uE mm te) (hb:Bx iT tS) (jY:okB mm iT=true) (hB:nL B iT):∃ ι1,b9 ι1 mm iT env S∧Fr B ι S ι1 S∧(∀ k,ι1 k=if mK iT k then ι k else none):=by
 simp only[okB,kM,aB,aW] at jY
 refine⟨fun k=>if mK iT k then ι k else none,⟨?_,fun k l hk => ?_,fun k e s hk t ht => ?_,fun k k' hk => ?_,fun i j k' hi hj => ?_,fun k b hk t ht => ?_⟩,⟨fun _ _ _=>rfl,fun k k' hk => ?_,fun k hk => ?_⟩,fun _=>rfl⟩
 ·refine mU _ _ (fun k hk => ?_) (H7 hl h.env)
  rw[if_pos (jY.1 k hk)]
 ·rcases zk hb hk with e | ⟨_,_,e,-⟩ | ⟨a,c,e,h1,h2⟩ | ⟨_,e,-⟩
  ·cases e
  ·cases e
  rotate_left
  ·exact absurd rfl (e _)
  ·cases e
   obtain⟨k',ds,n1,n2,n3⟩:=h.cells k c h1
   refine⟨k',ds,?_,n2,mU _ _ (fun j hj => ?_) (H7 h2 n3)⟩
   ·have:mK iT k=true:=by simp only[mK,hk]
    rw[if_pos this]; exact n1
   ·rw[if_pos (jY.2 j (CK hk hj))]
 ·split at ht
  ·rcases zk hb hk with e' | ⟨_,_,e',h1⟩ | ⟨a,c,e',h1,h2⟩ | ⟨_,-,e'⟩
   rotate_left 3
   ·exact absurd rfl (e' _ _)
   ·cases e'
   ·cases e'
    rcases h1 with h1 | h1
    ·exact h.own k e s h1 t ht
    ·obtain⟨b,h2,-⟩:=h.xI k t ht
     rw[h1] at h2; cases h2
   ·cases e'
  ·cases ht
 ·split at hk
  ·rename_i iZ
   unfold mK at iZ
   split at iZ
   ·cases iZ
   ·cases iZ
   ·rename_i b Nu Hx
    cases hx:iT[k]? with
    | none=>exact(Hx hx).elim
    | some b=>exact⟨b,rfl,fun e=>Nu (by rw[hx,e])⟩
  ·cases hk
 ·split at hi
  ·split at hj
   ·exact h.inj i j k' hi hj
   ·cases hj
  ·cases hi
 ·split at ht
  ·rcases zk hb hk with e' | ⟨_,_,e',-⟩ | ⟨_,_,e',-⟩ | ⟨h1,-⟩
   ·subst e'; trivial
   ·subst e'; trivial
   ·subst e'; trivial
   ·exact h.mp k _ h1 t ht
  ·cases ht
 ·split at hk
  ·exact .inl ⟨k,hk⟩
  ·cases hk
 ·obtain⟨l,h1⟩:=hB k hk
  have:mK iT k=true:=by simp only[mK,h1]
  simp only[this,if_true]
theorem AR (hb:Bx iT tS) (hB:nL B tS) (h:∀ k,k∈B→mK iT k=true):nL B iT:=by
 intro k hk
 have h1:=h k hk
 obtain⟨l,h2⟩:=hB k hk
 unfold mK at h1
 split at h1
 ·cases h1
 ·cases h1
 ·rename_i b Nu Hx
  cases hx:iT[k]? with
  | none=>exact(Hx hx).elim
  | some b =>
   rcases zk hb hx with e | ⟨_,_,e,h3⟩ | ⟨a,c,e,-,-⟩ | ⟨h3,e,-⟩
   ·exact(Nu (by rw[hx,e])).elim
   ·rw[h2] at h3; rcases h3 with h3 | h3<;>cases h3
   ·exact⟨a,by rw[e]⟩
   ·rw[h2] at h3; cases h3; exact absurd rfl (e _)
theorem FU (h:b9 ι te tS env S):b9 ι te (lE tS) env S:=by
 obtain⟨n,hn⟩:=DT tS
 have hT:∀ (k:Nat) (b:TB),b ≠ .none→(tS[k]? = some b↔(lE tS)[k]? = some b):=by
  intro k b hb
  conv=>lhs; rw[hn]
  rw[pM]
  split
  ·rfl
  ·rename_i hlt
   rw[eS (l:=lE tS) (by omega),nH]
   split
   ·exact⟨fun e=>by cases e; exact(hb rfl).elim,fun e=>by cases e⟩
   ·exact Iff.rfl
 refine⟨h.env,fun k l hk=>h.cells k l ((hT _ _ (fun e=>by cases e)).2 hk),fun k e s hk=>h.own k e s ((hT _ _ (fun e=>by cases e)).2 hk),fun k k' hk => ?_,h.inj,fun k b hk t ht=>by
  cases b with
  | none=>trivial
  | _=>exact h.mp k _ ((hT _ _ (fun e=>by cases e)).2 hk) t ht⟩
 obtain⟨b,h1,h2⟩:=h.xI k k' hk
 exact⟨b,(hT _ _ h2).1 h1,h2⟩
theorem Gv (hB:nL B tS):nL B (lE tS):=by
 intro k hk
 obtain⟨l,h1⟩:=hB k hk
 obtain⟨n,hn⟩:=DT tS
 refine⟨l,?_⟩
 rw[hn,pM] at h1
 split at h1
 ·exact h1
 ·rw[nH] at h1
  split at h1<;>cases h1
section
variable (P:Program) (ty:fI) (aI:bM) (call:bz) (yf:eE) (B:List Nat) (L:Nat) (fn:FuncId) (gW:Bool)
def WT (c:Code) (te:List TV) (tS:List TB) (Q:DX→List TV→List TB→Prop):Prop :=
 ∀ ι env S,b9 ι te tS env S→nL B tS→∃ e aC S' ι' ck cu,ct P ty aI call yf L fn gW c env S=some (e,aC,S')∧b9 ι' ck cu aC S'∧nL B cu∧Fr B ι S ι' S'∧Nn S.length S S'∧Q e ck cu
end
section
variable {L:Nat} {fn:FuncId} {gW:Bool} {a b c:Code} {Q Q':DX→List TV→List TB→Prop}
theorem WT.mono (h:WT P ty aI call yf B L fn gW c te tS Q) (hq:∀ e te tS,Q e te tS→Q' e te tS):WT P ty aI call yf B L fn gW c te tS Q':=by
 intro ι env S hR hB
 obtain⟨e,aC,S',ι',ck,cu,h1,h2,h3,h4,h5,h6⟩:=h ι env S hR hB
 exact⟨e,aC,S',ι',ck,cu,h1,h2,h3,h4,h5,hq _ _ _ h6⟩
theorem Sy (h:Q .normal te tS):WT P ty aI call yf B L fn gW .skip te tS Q:=fun ι env S hR hB=>⟨.normal,env,S,ι,te,tS,rfl,hR,hB,Fr.refl _ _ _,eX _ _,h⟩
theorem Pg {l:Nat} (h:Q .normal te tS):WT P ty aI call yf B L fn gW (.label l) te tS Q:=fun ι env S hR hB=>⟨.normal,env,S,ι,te,tS,rfl,hR,hB,Fr.refl _ _ _,eX _ _,h⟩
theorem SB {id:Nat} (h:Q (.exit id) te tS):WT P ty aI call yf B L fn gW (.exit id) te tS Q:=fun ι env S hR hB=>⟨.exit id,env,S,ι,te,tS,rfl,hR,hB,Fr.refl _ _ _,eX _ _,h⟩
theorem Xz (h:Q .ret te tS):WT P ty aI call yf B L fn gW .ret te tS Q:=fun ι env S hR hB=>⟨.ret,env,S,ι,te,tS,rfl,hR,hB,Fr.refl _ _ _,eX _ _,h⟩
theorem Pa (h:WT P ty aI call yf B L fn gW c te tS Q):WT P ty aI call yf B L fn gW (.scope c) te tS Q:=fun ι env S hR hB=>by
 obtain⟨e,aC,S',ι',ck,cu,h1,h2⟩:=h ι env S hR hB
 exact⟨e,aC,S',ι',ck,cu,by simp only[ct,h1],h2⟩
theorem OE (h:WT P ty aI call yf B L fn gW a te tS fun e te tS=>match e with | .normal=>WT P ty aI call yf B L fn gW b te tS Q | e=>Q e te tS):WT P ty aI call yf B L fn gW (.seq a b) te tS Q:=by
 intro ι env S hR hB
 obtain⟨e,aC,S',ι',ck,cu,h1,h2,h3,h4,h5,h6⟩:=h ι env S hR hB
 cases e with
 | normal =>
  obtain⟨e,ou,tj,ι'',tA,tB,k1,k2,k3,k4,k5,k6⟩:=h6 ι' aC S' h2 h3
  exact⟨e,ou,tj,ι'',tA,tB,by simp only[ct,h1,k1],k2,k3,h4.trans k4,qW h5 k5,k6⟩
 | exit id=>exact⟨_,aC,S',ι',ck,cu,by simp only[ct,h1],h2,h3,h4,h5,h6⟩
 | ret=>exact⟨_,aC,S',ι',ck,cu,by simp only[ct,h1],h2,h3,h4,h5,h6⟩
theorem SC {x:Operand} {t:Bool} (hx:gd te x=some (.val (.bool t))) (h1:t=true→WT P ty aI call yf B L fn gW a te tS Q) (h2:t=false→WT P ty aI call yf B L fn gW b te tS Q):WT P ty aI call yf B L fn gW (.cond x a b) te tS Q:=by
 intro ι env S hR hB
 obtain⟨d,k1,k2⟩:=bg hR.env hx
 cases d<;>simp only[RT] at k2
 subst k2
 cases t with
 | true =>
  obtain⟨e,aC,S',ι',ck,cu,m1,m2⟩:=h1 rfl ι env S hR hB
  exact⟨e,aC,S',ι',ck,cu,by simp only[ct,k1,m1],m2⟩
 | false =>
  obtain⟨e,aC,S',ι',ck,cu,m1,m2⟩:=h2 rfl ι env S hR hB
  exact⟨e,aC,S',ι',ck,cu,by simp only[ct,k1,m1],m2⟩
theorem Pj {id:Nat} (h:WT P ty aI call yf B L fn gW c te tS fun e te tS=>match e with | .exit gR=>Q (if gR=id then .normal else .exit gR) te tS | e=>Q e te tS):WT P ty aI call yf B L fn gW (.block id c) te tS Q:=by
 intro ι env S hR hB
 obtain⟨e,aC,S',ι',ck,cu,h1,h2,h3,h4,h5,h6⟩:=h ι env S hR hB
 cases e with
 | normal=>exact⟨_,aC,S',ι',ck,cu,by simp only[ct,h1],h2,h3,h4,h5,h6⟩
 | exit gR=>exact⟨_,aC,S',ι',ck,cu,by simp only[ct,h1],h2,h3,h4,h5,h6⟩
 | ret=>exact⟨_,aC,S',ι',ck,cu,by simp only[ct,h1],h2,h3,h4,h5,h6⟩
theorem Sz (hl:uE mm te) (hb:Bx iT tS) (jY:okB mm iT=true) (hB:∀ k,k∈B→mK iT k=true) (h:WT P ty aI call yf B L fn gW c mm iT Q):WT P ty aI call yf B L fn gW c te tS Q:=by
 intro ι env S hR UU
 have Q3:=AR hb UU hB
 obtain⟨ι1,h1,h2,-⟩:=As hR hl hb jY Q3
 obtain⟨e,aC,S',ι',ck,cu,m1,m2,m3,m4,m5⟩:=h ι1 env S h1 Q3
 exact⟨e,aC,S',ι',ck,cu,m1,m2,m3,h2.trans m4,m5⟩
structure Fits (B:List Nat) (mm:List TV) (iT:List TB) (te:List TV) (tS:List TB):Prop where
 l:uE mm te
 b:Bx iT tS
 ok:okB mm iT=true
 base:∀ k,k∈B→mK iT k=true
theorem Pe {id:Nat} (h:WL P ty aI call yf B ops 0 te tS fun te tS=>Q .normal te (lE tS)):WT P ty aI call yf B L fn gW (.region id ops false) te tS Q:=by
 intro ι env S hR hB
 obtain⟨aC,S',ι',ck,cu,h1,h2,h3,h4,h5,h6⟩:=h ι env S hR hB
 refine⟨.normal,aC,S',ι',ck,lE cu,?_,FU h2,Gv h3,h4,h5,h6⟩
 rw[kL] at h1
 simp only[ct,nB,aD,if_false,h1,Option.map_some]
theorem Pb {id:Nat} (hd:jK ops (Region.before ops)=true) (hl:sV P ops=false) (h:WQ P ty aI call yf ops tS 0 te fun te=>Q .normal te tS):WT P ty aI call yf B L fn gW (.region id ops true) te tS Q:=by
 intro ι env S hR hB
 obtain⟨aC,ck,h1,h2,h3⟩:=h ι env S hR
 refine⟨.normal,aC,S,ι,ck,tS,?_,h2,hB,Fr.refl _ _ _,eX _ _,h3⟩
 rw[kL] at h1
 simp only[sV,Bool.or_eq_false_iff] at hl
 simp only[ct,nB,if_true,hd,hl.2,eO,aD,if_false,h1,Option.map_some]
theorem Ph {id:Nat} (hd:jK ops (Region.before ops)=true) (hn:sV P ops=true) (h:WD P ty aI call yf B ops 0 te (tS++List.replicate ops.size .none) [] fun te tS=>Q .normal te (lE tS)):WT P ty aI call yf B L fn gW (.region id ops true) te tS Q:=by
 intro ι env S hR hB
 have kE:=Ti hR ops.size ops.size
 obtain⟨w,hw⟩:=HK kE
 have hB':nL B (tS++List.replicate ops.size .none):=fun k hk=>by
  obtain⟨l,h1⟩:=hB k hk
  exact⟨l,by rw[ep (aJ.1 h1).1]; exact h1⟩
 obtain⟨aC,S',y6,ι',w',ck,cu,ft,h1,h2,-,h4,h5,h6,h7,h8,h9⟩:=h ι w env (S++List.replicate ops.size .none) S.length kE hB' hw (fun j _ hj=>by
  rw[fQ (by omega),nH,if_pos (by omega)])
 refine⟨.normal,aC,S',ι',ck,lE cu,?_,FU h5,Gv h6,⟨fun k' hl hno => ?_,fun k k' hk => ?_,h7.base⟩,⟨?_,fun j hj eG => ?_⟩,h9⟩
 ·rw[kL] at h1
  simp only[ct,nB,if_true,hd,eO,aD,if_false,Mm hn,h1,Yc h2 (by simpa using h4),Option.map_some]
 ·have e:=ext_get (n:=ops.size) hl
  rw[h7.rest k' (by obtain⟨b,e1,e2⟩:=hl; exact⟨b,e.trans e1,e2⟩) hno]
  exact e
 ·refine(h7.ours k k' hk).imp (fun e=>e) fun MQ hl=>MQ ?_
  obtain⟨b,e1,e2⟩:=hl
  exact⟨b,(ext_get ⟨b,e1,e2⟩).trans e1,e2⟩
 ·have:=h8.1
  rw[cO] at this
  omega
 ·have hlt:=(aJ.1 eG).1
  exact h8.2 j (fun i _ _=>by omega) (by rw[ep hlt]; exact eG)
end
end Go.Tv
end
section
namespace Go.Tv
open Go Go.Di
def tK:TV→Bool
 | .val v => !(v matches .tuple _)
 | .gY | .sl _ _ _=>true
 | _=>false
def dR:TV→Bool
 | .agg l=>l.all tK
 | .val _ | .gY | .sl _ _ _=>true
 | _=>false
def ot:TV→TV
 | .sl k l _ => .sl k l .no
 | .gY => .unk
 | v=>v
def jG:Option TT→TV→TV
 | some (.sl e),.gY => .sl e [] .no
 | _,.gY => .unk
 | _,.sl k l _ => .sl k l .no
 | some t,.agg l=>match t.of l with
  | some (x,[]) => .agg (t.cells x)
  | _ => .agg (l.map ot)
 | none,.agg l => .agg (l.map ot)
 | _,v=>v
def bG:List (Option TT)→List TV→List TV
 | _,[]=>[]
 | [],v::l=>jG none v::bG [] l
 | t::ts,v::l=>jG t v::bG ts l
def gq (tt:TypeId→Option TT) (fs:List TV) (argTypes:Array TypeId):List (Option TT):=fs.map (fun _=>none)++argTypes.toList.map tt
variable {P:Program} {ty:fI} {tt:TypeId→Option TT} {ι ι' w:lK} {S S':ak} {te mm:List TV} {env:List DV} {tS iT:List TB} {aI:bM} {call:bz} {yf:eE} {o:Oper} {ay nT:Nat} {B:List Nat} {r:TR} {ops:Array Oper}
mutual
theorem rZ:∀ (v:TV) (d:DV),refs v=[]→RT ι S v d→RT ι' S' v d
 | .unk,_,_,_=>by simp only[RT]
 | .val _,d,_,k=>by cases d<;>simp only[RT] at k ⊢; exact k
 | .gY,d,_,k=>by cases d<;>simp only[RT] at k ⊢; exact k
 | .agg l,d,h,k=>by cases d<;>simp only[RT] at k ⊢; exact gC l _ h k
 | .tup l,d,h,k=>by cases d<;>simp only[RT] at k ⊢; exact gC l _ h k
 | .sl t l .no,d,_,k=>by cases d<;>simp only[RT] at k ⊢; exact k
 | .sl t l .full,d,_,k=>by cases d<;>simp only[RT] at k ⊢; exact k
 | .sl t l (.oR g),d,h,k=>by simp[refs] at h
 | .ptr id off,d,h,k=>by simp[refs] at h
 | .ey t l i off,d,_,k=>by cases d<;>simp only[RT] at k ⊢; exact k
 | .mp id,d,h,k=>by simp[refs] at h
 | .so g t,d,h,k=>by simp[refs] at h
 | .sp g t i off,d,h,k=>by simp[refs] at h
 | .fn f a b,d,h,k=>by
  cases d<;>simp only[RT] at k ⊢
  simp only[refs,List.append_eq_nil_iff] at h
  exact⟨k.1,gC a _ h.1 k.2.1,gC b _ h.2 k.2.2⟩
theorem gC:∀ (l:List TV) (m:List DV),gh l=[]→cQ ι S l m→cQ ι' S' l m
 | [],m,_,k=>by rw[aU k]; exact bS
 | a::l,m,h,k=>by
  obtain⟨d,m',rfl,h1,h2⟩:=ax k
  simp only[gh,List.append_eq_nil_iff] at h
  exact aV (rZ a d h.1 h1) (gC l m' h.2 h2)
end
theorem GD {v:TV} {d:DV} (hp:tK v=true) (h:RT ι S v d):d.aL.bF=true∧RT ι' S' (ot v) d.aL:=by
 cases v<;>first | (cases hp; done) | skip
 ·cases d<;>simp only[RT] at h
  subst h
  exact⟨hp,by simp only[ot,RT,DV.aL]⟩
 ·cases d<;>simp only[RT] at h
  exact⟨rfl,by simp only[ot,RT]⟩
 ·cases d<;>simp only[RT] at h
  exact⟨rfl,by simp only[ot,RT,DV.aL]; exact⟨h.1,trivial⟩⟩
theorem x9:∀ {l:List TV} {m:List DV},l.all tK=true→cQ ι S l m→(m.map DV.aL).all DV.bF=true∧cQ ι' S' (l.map ot) (m.map DV.aL)
 | [],m,_,h=>by rw[aU h]; exact⟨rfl,bS⟩
 | a::l,m,hp,h=>by
  obtain⟨d,m',rfl,h1,h2⟩:=ax h
  simp only[List.all_cons,aB] at hp
  obtain⟨k1,k2⟩:=GD (ι':=ι') (S':=S') hp.1 h1
  obtain⟨k3,k4⟩:=x9 hp.2 h2
  exact⟨by simp[k1] at k3 ⊢; exact k3,aV k2 k4⟩
theorem Ax:∀ {t:TT} {l:List TV} {x:t.den} {r:List TV} {m:List DV},t.of l=some (x,r)→cQ ι S l m→∃ c m',m=c++m'∧cQ ι' S' (t.cells x) c∧cQ ι S r m'
 | .int k,l,x,r,m,h,hm=>by
  simp only[TT.of] at h
  unfold ofInt at h
  split at h
  ·split at h
   ·rename_i hk
    cases h
    obtain⟨d,m',rfl,h1,h2⟩:=ax hm
    cases d<;>simp only[RT] at h1
    subst h1
    subst hk
    exact⟨[_],m',rfl,je (by simp only[RT]),h2⟩
   ·cases h
  ·cases h
 | .bool,l,x,r,m,h,hm=>by
  simp only[TT.of] at h
  unfold ofBool at h
  split at h
  ·cases h
   obtain⟨d,m',rfl,h1,h2⟩:=ax hm
   cases d<;>simp only[RT] at h1
   subst h1
   exact⟨[_],m',rfl,je (by simp only[RT]),h2⟩
  ·cases h
 | .str,l,x,r,m,h,hm=>by
  simp only[TT.of] at h
  unfold ofStr at h
  split at h
  ·cases h
   obtain⟨d,m',rfl,h1,h2⟩:=ax hm
   cases d<;>simp only[RT] at h1
   subst h1
   exact⟨[_],m',rfl,je (by simp only[RT]),h2⟩
  ·cases h
 | .unit,l,x,r,m,h,hm=>by
  simp only[TT.of] at h
  cases h
  exact⟨[],m,rfl,bS,hm⟩
 | .pair a b,l,x,r,m,h,hm=>by
  simp only[TT.of] at h
  split at h
  ·rename_i x1 r1 h1
   split at h
   ·rename_i y r2 h2
    cases h
    obtain⟨c,m1,rfl,k1,k2⟩:=Ax h1 hm
    obtain⟨c',m2,rfl,k3,k4⟩:=Ax h2 k2
    exact⟨c++c',m2,by simp,ez k1 k3,k4⟩
   ·cases h
  ·cases h
 | .sl t,l,x,r,m,h,hm=>by
  simp only[TT.of] at h
  unfold RR at h
  split at h
  ·split at h
   ·rename_i ht
    subst ht
    cases h
    obtain⟨d,m',rfl,h1,h2⟩:=ax hm
    cases d<;>simp only[RT] at h1
    exact⟨[_],m',rfl,je (by simp only[RT]; exact⟨h1.1,trivial⟩),h2⟩
   ·cases h
  ·cases h
   obtain⟨d,m',rfl,h1,h2⟩:=ax hm
   cases d<;>simp only[RT] at h1
   obtain⟨rfl,rfl,rfl⟩:=h1
   exact⟨[_],m',rfl,je (by simp only[RT,dW]; exact⟨trivial,trivial⟩),h2⟩
  ·cases h
theorem kB {t:Option TT} {v:TV} {d:DV} (hp:dR v=true) (h:RT ι S v d):d.strip.pure=true∧(∀ l,d ≠ .tup l)∧RT ι' S' (jG t v) d.strip:=by
 cases v with
 | agg l =>
  cases d<;>simp only[RT] at h
  rename_i m
  obtain⟨k1,k2⟩:=x9 (ι':=ι') (S':=S') hp h
  refine⟨k1,fun _ e=>(by cases e),?_⟩
  cases t with
  | none=>simp only[jG,RT,DV.strip,DV.cN]; exact k2
  | some t =>
   have e:jG (some t) (.agg l)=match t.of l with | some (x,[]) => .agg (t.cells x) | _ => .agg (l.map ot):=by cases t<;>rfl
   rw[e]
   split
   ·rename_i x ho
    obtain⟨c,m',rfl,n1,n2⟩:=Cb ho h
    rw[aU n2,gu]
    simp only[RT,DV.strip,DV.cN]
    exact mX n1
   ·simp only[RT,DV.strip,DV.cN]; exact k2
 | val u =>
  cases d<;>simp only[RT] at h
  rename_i u'
  subst h
  refine⟨rfl,fun _ e=>(by cases e),?_⟩
  have e:jG t (.val u') = .val u':=by cases t with | none=>rfl | some t=>cases t<;>rfl
  rw[e]
  simp only[RT,DV.strip,DV.cN]
 | gY =>
  cases d<;>simp only[RT] at h
  obtain⟨rfl,rfl,rfl⟩:=h
  refine⟨rfl,fun _ e=>(by cases e),?_⟩
  cases t with
  | none=>simp only[jG,RT]
  | some t =>
   cases t with
   | sl e=>simp only[jG,RT,DV.strip,DV.cN,dW]; exact⟨trivial,trivial⟩
   | _=>simp only[jG,RT]
 | sl k l ap =>
  cases d<;>simp only[RT] at h
  refine⟨rfl,fun _ e=>(by cases e),?_⟩
  have e:jG t (.sl k l ap) = .sl k l .no:=by cases t with | none=>rfl | some t=>cases t<;>rfl
  rw[e]
  simp only[RT,DV.strip,DV.cN]
  exact⟨h.1,trivial⟩
 | _=>cases hp
theorem uh {t:Option TT} {v:TV} {d:DV} (hp:dR v=true) (h:RT ι S v d):RT ι' S' (jG t v) d:=by
 have n1:∀ {l:List TV} {m:List DV},l.all tK=true→cQ ι S l m→cQ ι' S' (l.map ot) m:=by
  intro l
  induction l with
  | nil=>intro m _ h; rw[aU h]; exact bS
  | cons a l ih =>
   intro m hp h
   obtain⟨d,m',rfl,h1,h2⟩:=ax h
   simp only[List.all_cons,aB] at hp
   refine aV ?_ (ih hp.2 h2)
   cases a<;>first | (cases hp.1; done) | skip
   ·cases d<;>simp only[RT] at h1
    simp only[ot,RT]; exact h1
   ·simp only[ot,RT]
   ·cases d<;>simp only[RT] at h1
    simp only[ot,RT]; exact⟨h1.1,trivial⟩
 cases v with
 | agg l =>
  cases d<;>simp only[RT] at h
  rename_i m
  cases t with
  | none=>simp only[jG,RT]; exact n1 hp h
  | some t =>
   have e:jG (some t) (.agg l)=match t.of l with | some (x,[]) => .agg (t.cells x) | _ => .agg (l.map ot):=by cases t<;>rfl
   rw[e]
   split
   ·rename_i x ho
    obtain⟨c,m',rfl,k1,k2⟩:=Ax (ι':=ι') (S':=S') ho h
    rw[aU k2,gu]
    simp only[RT]
    exact k1
   ·simp only[RT]; exact n1 hp h
 | val u =>
  cases d<;>simp only[RT] at h
  have e:jG t (.val u) = .val u:=by cases t with | none=>rfl | some t=>cases t<;>rfl
  rw[e]
  simp only[RT]
  exact h
 | gY =>
  cases d<;>simp only[RT] at h
  obtain⟨rfl,rfl,rfl⟩:=h
  cases t with
  | none=>simp only[jG,RT]
  | some t =>
   cases t with
   | sl e=>simp only[jG,RT,dW]; exact⟨trivial,trivial⟩
   | _=>simp only[jG,RT]
 | sl k l ap =>
  cases d<;>simp only[RT] at h
  have e:jG t (.sl k l ap) = .sl k l .no:=by cases t with | none=>rfl | some t=>cases t<;>rfl
  rw[e]
  simp only[RT]
  exact⟨h.1,trivial⟩
 | _=>cases hp
theorem iA:∀ {ts:List (Option TT)} {l:List TV} {m:List DV},l.all dR=true→cQ ι S l m→(m.map DV.strip).all DV.pure=true∧cQ ι' S' (bG ts l) (m.map DV.strip)
 | _,[],m,_,h=>by rw[aU h]; exact⟨rfl,by simp only[bG,ek]; exact bS⟩
 | [],a::l,m,hp,h=>by
  obtain⟨d,m',rfl,h1,h2⟩:=ax h
  simp only[List.all_cons,aB] at hp
  obtain⟨k1,-,k2⟩:=kB (t:=none) (ι':=ι') (S':=S') hp.1 h1
  obtain⟨k3,k4⟩:=iA (ts:=[]) hp.2 h2
  refine⟨?_,by simp only[bG,bD]; exact aV k2 k4⟩
  rw[bD,List.all_cons,k1,k3]; rfl
 | t::ts,a::l,m,hp,h=>by
  obtain⟨d,m',rfl,h1,h2⟩:=ax h
  simp only[List.all_cons,aB] at hp
  obtain⟨k1,-,k2⟩:=kB (t:=t) (ι':=ι') (S':=S') hp.1 h1
  obtain⟨k3,k4⟩:=iA (ts:=ts) hp.2 h2
  refine⟨?_,by simp only[bG,bD]; exact aV k2 k4⟩
  rw[bD,List.all_cons,k1,k3]; rfl
theorem jA:∀ {ts:List (Option TT)} {l:List TV} {m:List DV},l.all dR=true→cQ ι S l m→cQ ι' S' (bG ts l) m
 | _,[],m,_,h=>by rw[aU h]; simp only[bG]; exact bS
 | [],a::l,m,hp,h=>by
  obtain⟨d,m',rfl,h1,h2⟩:=ax h
  simp only[List.all_cons,aB] at hp
  simp only[bG]
  exact aV (uh hp.1 h1) (jA hp.2 h2)
 | t::ts,a::l,m,hp,h=>by
  obtain⟨d,m',rfl,h1,h2⟩:=ax h
  simp only[List.all_cons,aB] at hp
  simp only[bG]
  exact aV (uh hp.1 h1) (jA hp.2 h2)
def eB:lK:=fun _=>none
def qN (aI:bM) (g:FuncId) (targs:List TV) (Q:TV→Prop):Prop :=
 ∀ bY,cQ eB [] targs bY→∃ d v,aI g bY=some d∧d.pure=true∧RT eB [] v d∧refs v=[]∧Q v
theorem qN.mono {g:FuncId} {targs:List TV} {Q Q':TV→Prop} (h:qN aI g targs Q) (hq:∀ v,Q v→Q' v):qN aI g targs Q':=fun bY hd=>by
 obtain⟨d,v,h1,h2,h3,h4,h5⟩:=h bY hd
 exact⟨d,v,h1,h2,h3,h4,hq v h5⟩
theorem jq (hE:cQ ι S te env) {f:Operand} {args:Array Operand} {g:FuncId} {fs cs xs:List TV} (hf:gd te f=some (.fn g fs cs)) (ha:mG te args.toList=some xs) :
  ∃ y6 iB Jc,gX env f=some (.fn g y6 iB)∧evs (gX env) args.toList=some Jc∧cQ ι S (fs++xs++cs) (y6++Jc++iB):=by
 obtain⟨d,k1,k2⟩:=bg hE hf
 obtain⟨Jc,k3,k4⟩:=rQ hE ha
 cases d<;>simp only[RT] at k2
 obtain⟨rfl,k5,k6⟩:=k2
 exact⟨_,_,Jc,k1,k3,ez (ez k5 k4) k6⟩
theorem Bj {f:Operand} {args:Array Operand} {argTypes:Array TypeId} {g:FuncId} {fs cs xs targs:List TV} {Q:TV→Prop} (hop:o.op = .call { callee := .value f,args,argTypes }) (hh:ty.h o≠1) (hf:gd te f=some (.fn g fs cs)) (ha:mG te args.toList=some xs) (hp:(fs++xs++cs).all dR=true)
  (hn:bG (gq tt fs argTypes) (fs++xs++cs)=targs) (hs:qN aI g targs Q) (dr:Bool):Does P ty aI call yf B o nT te tS dr fun v ck cu ft=>Q v∧ck=te∧cu=tS∧ft=⟨some [],false⟩:=by
 intro ι w env S ay hR hB hw hT Ht hS
 obtain⟨y6,iB,Jc,k1,k2,k3⟩:=jq hR.env hf ha
 obtain⟨k4,k5⟩:=iA (ts:=gq tt fs argTypes) (ι':=eB) (S':=[]) hp k3
 rw[hn] at k5
 obtain⟨d,v,m1,m2,m3,m4,m5⟩:=hs _ k5
 refine⟨d,S,ι,w,v,te,tS,⟨some [],false⟩,⟨some [],false⟩,fun _ => ?_,fun hd => ?_,⟨id,fun l hl=>⟨[],rfl,fun j hj=>(by cases hj)⟩⟩,fun l m _ hm j hj=>(by cases hm; cases hj),hR,rZ _ _ m4 m3,hw,fun _ _ _=>rfl,Fr.refl _ _ _,hB,eX _ _,m5,rfl,rfl,rfl⟩
 ·simp only[af,hop,k1,k2,uU,k4,if_true,m1]
 ·simp only[aF,hop,k1,k2,if_neg hh,k4,if_true,m1,Option.map_some]
theorem Pm {k:Nat} {f:Operand} {args:Array Operand} {argTypes:Array TypeId} {g:FuncId} {fs cs xs targs:List TV} {K:TV→Prop} {Q:List TV→Prop} (ho:ops[k]? = some o) (hw:dK ops te o=some true) (hop:o.op = .call { callee := .value f,args,argTypes }) (hh:ty.h o≠1) (hf:gd te f=some (.fn g fs cs)) (ha:mG te args.toList=some xs) (hp:(fs++xs++cs).all dR=true)
  (hn:bG (gq tt fs argTypes) (fs++xs++cs)=targs) (hs:qN aI g targs K) (h:∀ v,K v→WQ P ty aI call yf ops tS (k+1) (lF te o.dst v) Q):WQ P ty aI call yf ops tS k te Q:=by
 intro ι env S hR
 obtain⟨y6,iB,Jc,k1,k2,k3⟩:=jq hR.env hf ha
 obtain⟨k4,k5⟩:=iA (ts:=gq tt fs argTypes) (ι':=eB) (S':=[]) hp k3
 rw[hn] at k5
 obtain⟨d,v,m1,m2,m3,m4,m5⟩:=hs _ k5
 obtain⟨aC,ck,n1,n2,n3⟩:=h v m5 ι (iM env o.dst d) S (lP hR (rZ _ _ m4 m3) _)
 refine⟨aC,ck,?_,n2,n3⟩
 rw[lV ho]
 have hq:cF P ty aI call yf (gX env) o S=some d:=by simp only[cF,hop,k1,k2,if_neg hh,k4,if_true,m1]
 simp only[nN,gA hR.env hw,if_true,hq,n1]
def isRef:TV→Bool
 | .ptr _ _ | .fn _ _ _=>true
 | _=>false
def Sj (kp:Nat) (t:Option TT):TV→Option TV
 | .ptr k off=>if k=kp then some (.ptr 0 off) else none
 | v=>if dR v then some (jG t v) else none
def Fu (kp:Nat):List TV→Option (List TV)
 | []=>some []
 | v::l=>match Sj kp none v,Fu kp l with
  | some a,some b=>some (a::b)
  | _,_=>none
def Sn (kp:Nat) (t:Option TT):TV→Option TV
 | .fn g fs cs=>match Fu kp fs,Fu kp cs with
  | some a,some b=>some (.fn g a b)
  | _,_=>none
 | v=>Sj kp t v
def uV (kp:Nat):List (Option TT)→List TV→Option (List TV)
 | _,[]=>some []
 | [],v::l=>match Sn kp none v,uV kp [] l with
  | some a,some b=>some (a::b)
  | _,_=>none
 | t::ts,v::l=>match Sn kp t v,uV kp ts l with
  | some a,some b=>some (a::b)
  | _,_=>none
def iL (id:Nat):lK:=fun j=>if j=0 then some id else none
theorem KL {kp id:Nat} {t:Option TT} {v v':TV} {d:DV} (hk:ι kp=some id) (h:Sj kp t v=some v') (hv:RT ι S v d):RT (iL id) S v' d:=by
 unfold Sj at h
 split at h
 ·split at h
  ·rename_i k off K3
   subst K3
   cases h
   cases d<;>simp only[RT] at hv ⊢
   rw[hk] at hv
   exact⟨hv.1,hv.2⟩
  ·cases h
 ·split at h
  ·rename_i hp
   cases h
   exact uh hp hv
  ·cases h
theorem AQ {kp id:Nat} (hk:ι kp=some id):∀ {l l':List TV} {m:List DV},Fu kp l=some l'→cQ ι S l m→cQ (iL id) S l' m
 | [],l',m,h,hv=>by cases h; rw[aU hv]; exact bS
 | v::l,l',m,h,hv=>by
  obtain⟨d,m',rfl,h1,h2⟩:=ax hv
  simp only[Fu] at h
  split at h
  ·rename_i a b e1 e2
   cases h
   exact aV (KL hk e1 h1) (AQ hk e2 h2)
  ·cases h
theorem KS {kp id:Nat} {t:Option TT} {v v':TV} {d:DV} (hk:ι kp=some id) (h:Sn kp t v=some v') (hv:RT ι S v d):RT (iL id) S v' d:=by
 unfold Sn at h
 split at h
 ·split at h
  ·rename_i g fs cs a b e1 e2
   cases h
   cases d<;>simp only[RT] at hv ⊢
   exact⟨hv.1,AQ hk e1 hv.2.1,AQ hk e2 hv.2.2⟩
  ·cases h
 ·exact KL hk h hv
theorem AU {kp id:Nat} (hk:ι kp=some id):∀ {ts:List (Option TT)} {l l':List TV} {m:List DV},uV kp ts l=some l'→cQ ι S l m→cQ (iL id) S l' m
 | _,[],l',m,h,hv=>by simp only[uV] at h; cases h; rw[aU hv]; exact bS
 | [],v::l,l',m,h,hv=>by
  obtain⟨d,m',rfl,h1,h2⟩:=ax hv
  simp only[uV] at h
  split at h
  ·rename_i a b e1 e2
   cases h
   exact aV (KS hk e1 h1) (AU hk e2 h2)
  ·cases h
 | t::ts,v::l,l',m,h,hv=>by
  obtain⟨d,m',rfl,h1,h2⟩:=ax hv
  simp only[uV] at h
  split at h
  ·rename_i a b e1 e2
   cases h
   exact aV (KS hk e1 h1) (AU hk e2 h2)
  ·cases h
theorem tW:∀ {l:List TV} {m:List DV},l.any isRef=true→cQ ι S l m→(m.map DV.strip).all DV.pure=false
 | [],_,h,_=>by cases h
 | v::l,m,h,hv=>by
  obtain⟨d,m',rfl,h1,h2⟩:=ax hv
  simp only[List.any_cons,eP] at h
  rw[bD,List.all_cons]
  rcases h with h | h
  ·cases v<;>first | (cases h; done) | skip
   ·cases d<;>simp only[RT] at h1; rfl
   ·cases d<;>simp only[RT] at h1; rfl
  ·rw[tW h h2,lX]
def x5 (call:bz) (g:FuncId) (targs ts:List TV) (Q:TV→List TV→Prop):Prop :=
 ∀ ι bY S,b9 ι targs [.cells ts] bY S→∃ d S' ι' v vZ k' gT,call g bY S=some (d,S')∧RT ι' S' v d∧refs v=[]∧gh vZ=[]∧ι 0=some k'∧S'[k']? = some (.cells gT)∧cQ ι' S' vZ gT∧Fr [0] ι S ι' S'∧Nn S.length S S'∧Q v vZ
theorem x5.mono {g:FuncId} {targs ts:List TV} {Q Q':TV→List TV→Prop} (h:x5 call g targs ts Q) (hq:∀ v ts,Q v ts→Q' v ts):x5 call g targs ts Q':=fun ι bY S hd=>by
 obtain⟨d,S',ι',v,vZ,k',gT,h1,h2,h3,h4,h5,h6,h7,h8,h9,uD⟩:=h ι bY S hd
 exact⟨d,S',ι',v,vZ,k',gT,h1,h2,h3,h4,h5,h6,h7,h8,h9,hq _ _ uD⟩
theorem I5 {f:Operand} {args:Array Operand} {argTypes:Array TypeId} {g:FuncId} {fs cs xs targs ts:List TV} {kp:Nat} {Q:TV→List TV→Prop} (hop:o.op = .call { callee := .value f,args,argTypes }) (hf:gd te f=some (.fn g fs cs)) (ha:mG te args.toList=some xs)
  (hn:uV kp (gq tt fs argTypes) (fs++xs++cs)=some targs) (hr:(fs++xs++cs).any isRef=true) (V3:tS[kp]? = some (.cells ts)) (MP:gh ts=[]) (hs:x5 call g targs ts Q):Does P ty aI call yf B o nT te tS false fun v ck cu ft=>∃ vZ,Q v vZ∧ck=te∧cu=tS.set kp (.cells vZ)∧ft=⟨none,true⟩:=by
 intro ι w env S ay hR hB hw hT Ht hS
 obtain⟨y6,iB,Jc,k1,k2,k3⟩:=jq hR.env hf ha
 obtain⟨gR,ds,k6,m2,m3⟩:=hR.cells kp ts V3
 have hc:b9 (iL gR) targs [.cells ts] (y6++Jc++iB) S:=by
  refine⟨AU k6 hn k3,fun k l hk => ?_,fun k e s hk => ?_,fun k k' hk => ?_,fun i j k' hi hj => ?_,fun k b hk t ht=>by cases k with | zero=>cases hk; trivial | succ k=>simp at hk⟩
  ·cases k with
   | zero =>
    cases hk
    exact⟨gR,ds,rfl,m2,gC _ _ MP m3⟩
   | succ k=>simp at hk
  ·cases k<;>simp at hk
  ·by_cases h0:k=0
   ·subst h0; exact⟨_,rfl,fun e=>by cases e⟩
   ·simp only[iL,h0,if_false] at hk; cases hk
  ·by_cases zB:i=0<;>by_cases K4:j=0
   ·rw[zB,K4]
   ·simp only[iL,K4,if_false] at hj; cases hj
   ·simp only[iL,zB,if_false] at hi; cases hi
   ·simp only[iL,zB,if_false] at hi; cases hi
 obtain⟨d,S',ι',v,vZ,k',gT,n1,n2,n3,n4,n5,n6,n7,n8,n9,n10⟩:=hs _ _ S hc
 simp only[iL,if_true,az] at n5
 subst n5
 have qg:∀ k k0,k≠kp→ι k=some k0→S'[k0]? = S[k0]? := by
  intro k k0 hk h0
  refine n8.rest k0 (hR.live h0) fun j hj => ?_
  by_cases K4:j=0
  ·subst K4
   simp only[iL,if_true,az] at hj
   subst hj
   exact hk (hR.inj _ _ _ h0 k6)
  ·simp only[iL,K4,if_false] at hj; cases hj
 have K:kV ι S ι S' fun _=>False:=fun k k0 _ hk=>⟨hk,by
  by_cases K3:k=kp
  ·subst K3
   rw[k6] at hk
   cases hk
   exact zi (by rw[m2]; simp) (by rw[m2]; simp)
  ·exact eW (qg k k0 K3 hk)⟩
 have ZB:=tW hr k3
 refine⟨d,S',ι,w,v,te,tS.set kp (.cells vZ),⟨none,true⟩,⟨none,true⟩,fun _ => ?_,fun hd=>(by cases hd),⟨fun e=>e,fun l hl=>(by cases hl)⟩,fun l m hl=>(by cases hl),?_,rZ _ _ n3 n2,hw,fun _ _ _=>rfl,⟨fun k0 hl hno=>n8.rest k0 hl fun j hj => ?_,fun k k0 hk => .inl ⟨k,hk⟩,fun _ _=>rfl⟩,fun k hk => ?_,⟨n9.1,fun j hj eG => ?_⟩,vZ,n10,rfl,rfl,rfl⟩
 ·simp only[af,hop,k1,k2,uU,ZB,aD,if_false,n1]
  split<;>rfl
 ·refine⟨bO K _ _ hR.env,fun k l hk => ?_,fun k e s hk t ht => ?_,fun k k0 hk => ?_,hR.inj,fun k b hk t ht=>by
   rw[aK] at hk
   split at hk
   ·split at hk<;>cases hk
    trivial
   ·rename_i e1
    rw[qg k t (fun e=>e1 e.symm) ht]; exact hR.mp k b hk t ht⟩
  ·rw[aK] at hk
   split at hk
   ·rename_i e1
    subst e1
    split at hk
    ·cases hk
     exact⟨gR,gT,k6,n6,gC _ _ n4 n7⟩
    ·cases hk
   ·rename_i e1
    obtain⟨k0,NA,q1,q2,q3⟩:=hR.cells k l hk
    exact⟨k0,NA,q1,by rw[qg k k0 (Ne.symm e1) q1]; exact q2,bO K _ _ q3⟩
  ·rw[aK] at hk
   split at hk
   ·split at hk<;>cases hk
   ·obtain⟨n,q1⟩:=hR.own k e s hk t ht
    exact⟨n,(K k t (fun e=>e) ht).2.1 _ _ _ q1⟩
  ·rw[aK]
   split
   ·rename_i e1
    subst e1
    exact⟨_,if_pos (aJ.1 V3).1,fun e=>by cases e⟩
   ·exact hR.xI k k0 hk
 ·by_cases K4:j=0
  ·subst K4
   simp only[iL,if_true,az] at hj
   subst hj
   exact hno _ k6
  ·simp only[iL,K4,if_false] at hj; cases hj
 ·rw[aK]
  split
  ·rename_i e1
   subst e1
   exact⟨_,if_pos (aJ.1 V3).1⟩
  ·exact hB k hk
 ·have:=(aJ.1 eG).1
  exact n9.2 j (by omega) eG
def uS:TV→Bool
 | .val v => !(v matches .tuple _)
 | .sl _ _ .no=>true
 | _=>false
def Fp:TV→Bool
 | .agg l=>l.all uS
 | .val _ | .sl _ _ .no=>true
 | _=>false
def JA:TV→Bool
 | .tup l=>l.all Fp
 | v=>Fp v
theorem GV {v:TV} {d:DV} (hp:uS v=true) (h:RT ι S v d):d.aL.bF=true∧RT ι' S' v d.aL:=by
 cases v<;>first | (cases hp; done) | skip
 ·cases d<;>simp only[RT] at h
  subst h
  exact⟨hp,by simp only[RT,DV.aL]⟩
 ·rename_i t l ap
  cases ap<;>first | (cases hp; done) | skip
  cases d<;>simp only[RT] at h
  exact⟨rfl,by simp only[RT,DV.aL]; exact⟨h.1,trivial⟩⟩
theorem mj:∀ {l:List TV} {m:List DV},l.all uS=true→cQ ι S l m→(m.map DV.aL).all DV.bF=true∧cQ ι' S' l (m.map DV.aL)
 | [],m,_,h=>by rw[aU h]; exact⟨rfl,bS⟩
 | a::l,m,hp,h=>by
  obtain⟨d,m',rfl,h1,h2⟩:=ax h
  simp only[List.all_cons,aB] at hp
  obtain⟨k1,k2⟩:=GV (ι':=ι') (S':=S') hp.1 h1
  obtain⟨k3,k4⟩:=mj hp.2 h2
  exact⟨by rw[bD,List.all_cons,k1,k3]; rfl,aV k2 k4⟩
theorem yy {v:TV} {d:DV} (hp:Fp v=true) (h:RT ι S v d):d.cN.iK=true∧RT ι' S' v d.cN:=by
 cases v<;>first | (cases hp; done) | skip
 ·cases d<;>simp only[RT] at h
  subst h
  exact⟨rfl,by simp only[RT,DV.cN]⟩
 ·cases d<;>simp only[RT] at h
  obtain⟨k1,k2⟩:=mj (ι':=ι') (S':=S') hp h
  exact⟨k1,by simp only[RT,DV.cN]; exact k2⟩
 ·rename_i t l ap
  cases ap<;>first | (cases hp; done) | skip
  cases d<;>simp only[RT] at h
  exact⟨rfl,by simp only[RT,DV.cN]; exact⟨h.1,trivial⟩⟩
theorem vW:∀ {l:List TV} {m:List DV},l.all Fp=true→cQ ι S l m→(m.map DV.cN).all DV.iK=true∧cQ ι' S' l (m.map DV.cN)
 | [],m,_,h=>by rw[aU h]; exact⟨rfl,bS⟩
 | a::l,m,hp,h=>by
  obtain⟨d,m',rfl,h1,h2⟩:=ax h
  simp only[List.all_cons,aB] at hp
  obtain⟨k1,k2⟩:=yy (ι':=ι') (S':=S') hp.1 h1
  obtain⟨k3,k4⟩:=vW hp.2 h2
  exact⟨by rw[bD,List.all_cons,k1,k3]; rfl,aV k2 k4⟩
theorem GU {v:TV} {d:DV} (hp:JA v=true) (h:RT ι S v d):d.strip.pure=true∧RT ι' S' v d.strip:=by
 by_cases hd:∃ l,d = .tup l
 ·obtain⟨m,rfl⟩:=hd
  cases v<;>simp only[RT] at h<;>first | (cases hp; done) | skip
  obtain⟨k1,k2⟩:=vW (ι':=ι') (S':=S') hp h
  exact⟨k1,by simp only[RT,DV.strip]; exact k2⟩
 ·have hv:Fp v=true:=by
   cases v<;>first | exact hp | skip
   cases d<;>simp only[RT] at h
   exact(hd ⟨_,rfl⟩).elim
  obtain⟨k1,k2⟩:=yy (ι':=ι') (S':=S') hv h
  have e:d.strip=d.cN:=by cases d<;>first | rfl | exact(hd ⟨_,rfl⟩).elim
  refine⟨?_,by rw[e]; exact k2⟩
  rw[e]
  have:∀ c:DV,c.iK=true→(∀ l,c ≠ .tup l)→c.pure=true:=fun c h hn=>by cases c<;>first | exact h | exact(hn _ rfl).elim
  refine this _ k1 fun l hl => ?_
  cases d<;>simp only[DV.cN] at hl<;>first | (cases hl; done) | exact hd ⟨_,rfl⟩
theorem GX {f:Operand} {args:Array Operand} {argTypes:Array TypeId} {g:FuncId} {fs cs xs rest ts:List TV} {kp off:Nat} {Q:TV→List TV→Prop} (hop:o.op = .call { callee := .value f,args,argTypes }) (hh:ty.h o≠1) (hf:gd te f=some (.fn g fs cs)) (ha:mG te args.toList=some xs)
  (hl:fs++xs++cs = .ptr kp off::rest) (hp:rest.all dR=true) (V3:tS[kp]? = some (.cells ts)) (rH:ts.all uS=true) (hs:x5 call g (.ptr 0 off::bG (gq tt fs argTypes).tail rest) ts Q) (hq:∀ v vZ,Q v vZ→JA v=true∧vZ.all uS=true) :
  Does P ty aI call yf B o nT te tS true fun v ck cu ft=>∃ vZ,Q v vZ∧ck=te∧cu=tS.set kp (.cells vZ)∧ft=⟨some [kp],true⟩:=by
 intro ι w env S ay hR hB hw hT Ht hS
 obtain⟨y6,iB,Jc,k1,k2,k3⟩:=jq hR.env hf ha
 obtain⟨gR,ds,k6,m2,m3⟩:=hR.cells kp ts V3
 rw[hl] at k3
 obtain⟨d0,m0,hm0,Rp,Hs⟩:=ax k3
 have Hw:d0 = .ptr gR off:=by
  cases d0<;>simp only[RT] at Rp
  obtain⟨e1,e2⟩:=Rp
  rw[k6] at e1
  cases e1
  rw[e2]
 subst Hw
 obtain⟨p1,p2⟩:=iA (ts:=(gq tt fs argTypes).tail) (ι':=iL 0) (S':=[.cells (ds.map DV.aL)]) hp Hs
 obtain⟨c1,c2⟩:=mj (ι':=iL 0) (S':=[.cells (ds.map DV.aL)]) rH m3
 have hc:b9 (iL 0) (.ptr 0 off::bG (gq tt fs argTypes).tail rest) [.cells ts] (.ptr 0 off::m0.map DV.strip) [.cells (ds.map DV.aL)]:=by
  refine⟨aV (by simp only[RT]; exact⟨rfl,trivial⟩) p2,fun k l hk => ?_,fun k e s hk => ?_,fun k k' hk => ?_,fun i j k' hi hj => ?_,fun k b hk t ht=>by cases k with | zero=>cases hk; trivial | succ k=>simp at hk⟩
  ·cases k with
   | zero =>
    cases hk
    exact⟨0,_,rfl,rfl,c2⟩
   | succ k=>simp at hk
  ·cases k<;>simp at hk
  ·by_cases h0:k=0
   ·subst h0; exact⟨_,rfl,fun e=>by cases e⟩
   ·simp only[iL,h0,if_false] at hk; cases hk
  ·by_cases zB:i=0<;>by_cases K4:j=0
   ·rw[zB,K4]
   ·simp only[iL,K4,if_false] at hj; cases hj
   ·simp only[iL,zB,if_false] at hi; cases hi
   ·simp only[iL,zB,if_false] at hi; cases hi
 obtain⟨d,S1,ι1,v,vZ,k',gT,n1,n2,n3,n4,n5,n6,n7,n8,n9,n10⟩:=hs _ _ _ hc
 simp only[iL,if_true,az] at n5
 subst n5
 obtain⟨q1,q2⟩:=hq _ _ n10
 obtain⟨r1,r2⟩:=GU (ι':=ι) (S':=S.set gR (.cells (gT.map DV.aL))) q1 n2
 obtain⟨r3,r4⟩:=mj (ι':=ι) (S':=S.set gR (.cells (gT.map DV.aL))) q2 n7
 have aby:∃ T,S1 = .cells gT::T:=by
  cases S1 with
  | nil=>simp at n6
  | cons a T=>simp only[List.getElem?_cons_zero,az] at n6; exact⟨T,by rw[n6]⟩
 obtain⟨T,rfl⟩:=aby
 have hid:gR<S.length:=(aJ.1 m2).1
 have qg:∀ k0,k0≠gR→(S.set gR (.cells (gT.map DV.aL)))[k0]? = S[k0]? := fun k0 h=>by rw[aK,if_neg fun e=>h e.symm]
 have hkp:∀ k,k≠kp→∀ k0,ι k=some k0→k0≠gR:=fun k hk k0 h0 e=>hk (hR.inj _ _ _ (e▸h0) k6)
 have K:kV ι S ι (S.set gR (.cells (gT.map DV.aL))) fun _=>False:=fun k k0 _ hk=>⟨hk,by
  by_cases K3:k0=gR
  ·subst K3
   exact zi (by rw[m2]; simp) (by rw[m2]; simp)
  ·exact eW (qg k0 K3)⟩
 have ZB:((y6++Jc++iB).map DV.strip).all DV.pure=false:=by rw[hm0]; rfl
 have ho:xP call g (y6++Jc++iB) S=some (gR,d.strip,gT.map DV.aL):=by
  rw[hm0]
  simp only[xP,m2,p1,c1,fP,if_true,n1,r1,r3]
 refine⟨d.strip,S.set gR (.cells (gT.map DV.aL)),ι,w,v,te,tS.set kp (.cells vZ),⟨some [gR],true⟩,⟨some [kp],true⟩,fun hd=>(by cases hd),fun _ => ?_,⟨fun e=>e,fun l hl => ?_⟩,fun l m hl hm j hj => ?_,?_,r2,hw,fun _ _ _=>rfl,⟨fun k0 hl hno=>qg k0 fun e=>hno _ (e▸k6),fun k k0 hk => .inl ⟨k,hk⟩,fun _ _=>rfl⟩,fun k hk => ?_,⟨by simp,fun j hj eG => ?_⟩,vZ,n10,rfl,rfl,rfl⟩
 ·simp only[aF,hop,k1,k2,if_neg hh,ZB,aD,if_false,ho]
 ·cases hl
  exact⟨[gR],rfl,fun j hj=>⟨kp,by simp,by simp only[bH] at hj; rw[hj]; exact hw _ _ k6⟩⟩
 ·cases hm
  simp only[bH] at hj
  exact .inr ⟨kp,hj▸k6⟩
 ·refine⟨bO K _ _ hR.env,fun k l hk => ?_,fun k e s hk t ht => ?_,fun k k0 hk => ?_,hR.inj,fun k b hk t ht=>by
   rw[aK] at hk
   split at hk
   ·split at hk<;>cases hk
    trivial
   ·rename_i e1
    rw[qg t (hkp k (fun e=>e1 e.symm) t ht)]; exact hR.mp k b hk t ht⟩
  ·rw[aK] at hk
   split at hk
   ·rename_i e1
    subst e1
    split at hk
    ·cases hk
     exact⟨gR,_,k6,by rw[aK,if_pos rfl,if_pos hid],r4⟩
    ·cases hk
   ·rename_i e1
    obtain⟨k0,NA,q1,q2,q3⟩:=hR.cells k l hk
    exact⟨k0,NA,q1,by rw[qg k0 (hkp k (Ne.symm e1) k0 q1)]; exact q2,bO K _ _ q3⟩
  ·rw[aK] at hk
   split at hk
   ·split at hk<;>cases hk
   ·obtain⟨n,q1⟩:=hR.own k e s hk t ht
    exact⟨n,(K k t (fun e=>e) ht).2.1 _ _ _ q1⟩
  ·rw[aK]
   split
   ·rename_i e1
    subst e1
    exact⟨_,if_pos (aJ.1 V3).1,fun e=>by cases e⟩
   ·exact hR.xI k k0 hk
 ·rw[aK]
  split
  ·rename_i e1
   subst e1
   exact⟨_,if_pos (aJ.1 V3).1⟩
  ·exact hB k hk
 ·rw[qg j]
  ·exact eG
  ·intro e
   rw[e,m2] at eG
   cases eG
end Go.Tv
end
