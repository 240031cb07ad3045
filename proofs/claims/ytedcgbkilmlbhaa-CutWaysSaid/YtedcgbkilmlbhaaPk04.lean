import Derived.Test.YtedcgbkilmlbhaaPk03
section
namespace Go.Tv
open Go Go.Di
def trimT:List TB→List TB
 | []=>[]
 | b::l=>match trimT l,b with
  | [],.none=>[]
  | l',b=>b::l'
theorem trim_eq:∀ tS:List TB,∃ n,tS=trimT tS++List.replicate n .none
 | []=>⟨0,rfl⟩
 | b::l=>by
  obtain⟨n,h⟩:=trim_eq l
  simp only[trimT]
  split
  ·rename_i e
   rw[e] at h
   exact⟨n+1,by rw[h]; rfl⟩
  ·exact⟨n,by rw[List.cons_append,← h]⟩
inductive LeL:List TV→List TV→Prop
 | nil:LeL [] []
 | unk {v:TV} {l m:List TV}:LeL l m→LeL (.unk::l) (v::m)
 | same {v:TV} {l m:List TV}:LeL l m→LeL (v::l) (v::m)
 | no {t:TT} {x:List t.den} {ap:Ap} {l m:List TV}:LeL l m→LeL (.sl t x .no::l) (.sl t x ap::m)
 | lab {t:TT} {g:Nat} {l m:List TV}:LeL l m→LeL (.sl t [] (.lab g)::l) (.sl t [] .full::m)
 | nils {t:TT} {ap:Ap} {l m:List TV}:LeL l m→LeL (.sl t [] ap::l) (.nils::m)
 | agg {a b l m:List TV}:LeL a b→LeL l m→LeL (.agg a::l) (.agg b::m)
theorem LeL.refl:∀ l:List TV,LeL l l
 | [] => .nil
 | _::l => .same (LeL.refl l)
mutual
def refs:TV→List Nat
 | .sl _ _ (.lab g)=>[g]
 | .ptr id _=>[id]
 | .mp id=>[id]
 | .agg l=>refsL l
 | .tup l=>refsL l
 | .fn _ a b=>refsL a++refsL b
 | _=>[]
def refsL:List TV→List Nat
 | []=>[]
 | a::l=>refs a++refsL l
end
inductive LeB:List TB→List TB→Prop
 | nil {l:List TB}:LeB [] l
 | none {b:TB} {l m:List TB}:LeB l m→LeB (.none::l) (b::m)
 | own {e s:Nat} {l m:List TB}:LeB l m→LeB (.own e s::l) (.own e s::m)
 | new {e s:Nat} {l:List TB}:LeB l []→LeB (.own e s::l) []
 | cells {a b:List TV} {l m:List TB}:LeL a b→LeB l m→LeB (.cells a::l) (.cells b::m)
 | map {kt:TT} {c:List kt.den} {l m:List TB}:LeB l m→LeB (.map kt c::l) (.map kt c::m)
def liveB (tS:List TB) (k:Nat):Bool :=
 match tS[k]? with
 | some .none | none=>false
 | _=>true
def refsB:List TB→List Nat
 | []=>[]
 | .cells a::l=>refsL a++refsB l
 | _::l=>refsB l
def okB (te:List TV) (tS:List TB):Bool:=(refsL te++refsB tS).all (liveB tS)
variable {P:Program} {ty:Tys} {tt:TypeId→Option TT} {ι ι' w:Ids} {S S':Store} {te te1:List TV} {env:List DV} {tS tS1:List TB} {iso:IsoF} {call:CallF} {yf:YldF} {o:Oper} {nid nT:Nat} {B:List Nat} {r:TR} {ops:Array Oper}
theorem leL_ok {l m:List TV} (h:LeL l m):∀ {ds:List DV},RTl ι S m ds→RTl ι S l ds:=by
 induction h with
 | nil=>exact id
 | unk _ ih=>intro ds hd; obtain⟨d,m',rfl,h1,h2⟩:=rtl_cases hd; exact rtl_cons (by simp only[RT]) (ih h2)
 | same _ ih=>intro ds hd; obtain⟨d,m',rfl,h1,h2⟩:=rtl_cases hd; exact rtl_cons h1 (ih h2)
 | no _ ih =>
  intro ds hd
  obtain⟨d,m',rfl,h1,h2⟩:=rtl_cases hd
  refine rtl_cons ?_ (ih h2)
  cases d<;>simp only[RT] at h1 ⊢
  exact⟨h1.1,trivial⟩
 | lab _ ih =>
  intro ds hd
  obtain⟨d,m',rfl,h1,h2⟩:=rtl_cases hd
  refine rtl_cons ?_ (ih h2)
  cases d<;>simp only[RT] at h1 ⊢
  exact⟨h1.1,.inl ⟨h1.2.1,h1.2.2,rows_len h1.1⟩⟩
 | nils _ ih =>
  rename_i ap _ _ _
  intro ds hd
  obtain⟨d,m',rfl,h1,h2⟩:=rtl_cases hd
  refine rtl_cons ?_ (ih h2)
  cases d<;>simp only[RT] at h1 ⊢
  obtain⟨rfl,rfl,rfl⟩:=h1
  refine⟨trivial,?_⟩
  cases ap with
  | no=>trivial
  | full=>exact⟨rfl,rfl⟩
  | lab g=>exact .inl ⟨rfl,rfl,rfl⟩
 | agg _ _ ih1 ih2 =>
  intro ds hd
  obtain⟨d,m',rfl,h1,h2⟩:=rtl_cases hd
  refine rtl_cons ?_ (ih2 h2)
  cases d<;>simp only[RT] at h1 ⊢
  exact ih1 h1
mutual
theorem rt_refs:∀ (v:TV) (d:DV),(∀ k∈refs v,ι' k=ι k)→RT ι S v d→RT ι' S v d
 | .unk,_,_,_=>by simp only[RT]
 | .val _,d,_,k=>by cases d<;>simp only[RT] at k ⊢; exact k
 | .nils,d,_,k=>by cases d<;>simp only[RT] at k ⊢; exact k
 | .agg l,d,h,k=>by cases d<;>simp only[RT] at k ⊢; exact rtl_refs l _ h k
 | .tup l,d,h,k=>by cases d<;>simp only[RT] at k ⊢; exact rtl_refs l _ h k
 | .sl t l .no,d,_,k=>by cases d<;>simp only[RT] at k ⊢; exact k
 | .sl t l .full,d,_,k=>by cases d<;>simp only[RT] at k ⊢; exact k
 | .sl t l (.lab g),d,h,k=>by
  cases d<;>simp only[RT,ApOK] at k ⊢
  rw[h g (by simp[refs])]
  exact k
 | .ptr id off,d,h,k=>by
  cases d<;>simp only[RT] at k ⊢
  rw[h id (by simp[refs])]
  exact k
 | .eptr t l i off,d,_,k=>by cases d<;>simp only[RT] at k ⊢; exact k
 | .mp id,d,h,k=>by
  cases d<;>simp only[RT] at k ⊢
  rw[h id (by simp[refs])]
  exact k
 | .fn f a b,d,h,k=>by
  cases d<;>simp only[RT] at k ⊢
  exact⟨k.1,rtl_refs a _ (fun j hj=>h j (by simp[refs,hj])) k.2.1,rtl_refs b _ (fun j hj=>h j (by simp[refs,hj])) k.2.2⟩
theorem rtl_refs:∀ (l:List TV) (m:List DV),(∀ k∈refsL l,ι' k=ι k)→RTl ι S l m→RTl ι' S l m
 | [],m,_,k=>by rw[rtl_nil' k]; exact rtl_nil
 | a::l,m,h,k=>by
  obtain⟨d,m',rfl,h1,h2⟩:=rtl_cases k
  exact rtl_cons (rt_refs a d (fun j hj=>h j (by simp[refsL,hj])) h1) (rtl_refs l m' (fun j hj=>h j (by simp[refsL,hj])) h2)
end
theorem leB_get {l m:List TB} (h:LeB l m):∀ {k:Nat} {b:TB},l[k]? = some b→b = .none∨(∃ e s,b = .own e s∧(m[k]? = some (.own e s)∨m[k]? = none))∨(∃ a c,b = .cells a∧m[k]? = some (.cells c)∧LeL a c)∨∃ kt c,b = .map kt c∧m[k]? = some (.map kt c):=by
 induction h with
 | nil=>intro k b hb; simp at hb
 | none _ ih =>
  intro k b hb
  cases k with
  | zero=>simp only[List.getElem?_cons_zero,Option.some.injEq] at hb; exact .inl hb.symm
  | succ k=>simpa using ih (k:=k) (by simpa using hb)
 | own _ ih =>
  intro k b hb
  cases k with
  | zero=>simp only[List.getElem?_cons_zero,Option.some.injEq] at hb; subst hb; exact .inr (.inl ⟨_,_,rfl,.inl rfl⟩)
  | succ k=>simpa using ih (k:=k) (by simpa using hb)
 | new _ ih =>
  intro k b hb
  cases k with
  | zero=>simp only[List.getElem?_cons_zero,Option.some.injEq] at hb; subst hb; exact .inr (.inl ⟨_,_,rfl,.inr rfl⟩)
  | succ k=>simpa using ih (k:=k) (by simpa using hb)
 | cells hl _ ih =>
  intro k b hb
  cases k with
  | zero=>simp only[List.getElem?_cons_zero,Option.some.injEq] at hb; subst hb; exact .inr (.inr (.inl ⟨_,_,rfl,rfl,hl⟩))
  | succ k=>simpa using ih (k:=k) (by simpa using hb)
 | map _ ih =>
  intro k b hb
  cases k with
  | zero=>simp only[List.getElem?_cons_zero,Option.some.injEq] at hb; subst hb; exact .inr (.inr (.inr ⟨_,_,rfl,rfl⟩))
  | succ k=>simpa using ih (k:=k) (by simpa using hb)
theorem mem_refsB {k:Nat} {a:List TV}:∀ {tS:List TB} {j:Nat},tS[j]? = some (.cells a)→k∈refsL a→k∈refsB tS
 | [],_,h,_=>by simp at h
 | b::l,0,h,hk=>by
  simp only[List.getElem?_cons_zero,Option.some.injEq] at h
  subst h
  simp[refsB,hk]
 | b::l,j+1,h,hk=>by
  have:=mem_refsB (tS:=l) (j:=j) (by simpa using h) hk
  cases b<;>simp[refsB,this]
theorem rel_less (h:RelT ι te tS env S) (hl:LeL te1 te) (hb:LeB tS1 tS) (hok:okB te1 tS1=true) (hB:BOK B tS1):∃ ι1,RelT ι1 te1 tS1 env S∧Fr B ι S ι1 S∧(∀ k,ι1 k=if liveB tS1 k then ι k else none):=by
 simp only[okB,List.all_append,Bool.and_eq_true,List.all_eq_true] at hok
 refine⟨fun k=>if liveB tS1 k then ι k else none,⟨?_,fun k l hk => ?_,fun k e s hk t ht => ?_,fun k k' hk => ?_,fun i j k' hi hj => ?_,fun k kt l hk t ht => ?_⟩,⟨fun _ _ _=>rfl,fun k k' hk => ?_,fun k hk => ?_⟩,fun _=>rfl⟩
 ·refine rtl_refs _ _ (fun k hk => ?_) (leL_ok hl h.env)
  rw[if_pos (hok.1 k hk)]
 ·rcases leB_get hb hk with e | ⟨_,_,e,-⟩ | ⟨a,c,e,h1,h2⟩ | ⟨_,_,e,-⟩
  ·cases e
  ·cases e
  rotate_left
  ·cases e
  ·cases e
   obtain⟨k',ds,n1,n2,n3⟩:=h.cells k c h1
   refine⟨k',ds,?_,n2,rtl_refs _ _ (fun j hj => ?_) (leL_ok h2 n3)⟩
   ·have:liveB tS1 k=true:=by simp only[liveB,hk]
    rw[if_pos this]; exact n1
   ·rw[if_pos (hok.2 j (mem_refsB hk hj))]
 ·split at ht
  ·rcases leB_get hb hk with e' | ⟨_,_,e',h1⟩ | ⟨a,c,e',h1,h2⟩ | ⟨_,_,e',-⟩
   rotate_left 3
   ·cases e'
   ·cases e'
   ·cases e'
    rcases h1 with h1 | h1
    ·exact h.own k e s h1 t ht
    ·obtain⟨b,h2,-⟩:=h.dom k t ht
     rw[h1] at h2; cases h2
   ·cases e'
  ·cases ht
 ·split at hk
  ·rename_i hlive
   unfold liveB at hlive
   split at hlive
   ·cases hlive
   ·cases hlive
   ·rename_i b hb1 hb2
    cases hx:tS1[k]? with
    | none=>exact(hb2 hx).elim
    | some b=>exact⟨b,rfl,fun e=>hb1 (by rw[hx,e])⟩
  ·cases hk
 ·split at hi
  ·split at hj
   ·exact h.inj i j k' hi hj
   ·cases hj
  ·cases hi
 ·split at ht
  ·rcases leB_get hb hk with e' | ⟨_,_,e',-⟩ | ⟨_,_,e',-⟩ | ⟨kt',c,e',h1⟩
   ·cases e'
   ·cases e'
   ·cases e'
   ·cases e'
    exact h.mp k _ _ h1 t ht
  ·cases ht
 ·split at hk
  ·exact .inl ⟨k,hk⟩
  ·cases hk
 ·obtain⟨l,h1⟩:=hB k hk
  have:liveB tS1 k=true:=by simp only[liveB,h1]
  simp only[this,if_true]
theorem bok_less (hb:LeB tS1 tS) (hB:BOK B tS) (h:∀ k,k∈B→liveB tS1 k=true):BOK B tS1:=by
 intro k hk
 have h1:=h k hk
 obtain⟨l,h2⟩:=hB k hk
 unfold liveB at h1
 split at h1
 ·cases h1
 ·cases h1
 ·rename_i b hb1 hb2
  cases hx:tS1[k]? with
  | none=>exact(hb2 hx).elim
  | some b =>
   rcases leB_get hb hx with e | ⟨_,_,e,h3⟩ | ⟨a,c,e,-,-⟩ | ⟨_,_,e,h3⟩
   ·exact(hb1 (by rw[hx,e])).elim
   ·rw[h2] at h3; rcases h3 with h3 | h3<;>cases h3
   ·exact⟨a,by rw[e]⟩
   ·rw[h2] at h3; cases h3
theorem rel_trim (h:RelT ι te tS env S):RelT ι te (trimT tS) env S:=by
 obtain⟨n,hn⟩:=trim_eq tS
 have hT:∀ (k:Nat) (b:TB),b ≠ .none→(tS[k]? = some b↔(trimT tS)[k]? = some b):=by
  intro k b hb
  conv=>lhs; rw[hn]
  rw[List.getElem?_append]
  split
  ·rfl
  ·rename_i hlt
   rw[List.getElem?_eq_none (l:=trimT tS) (by omega),List.getElem?_replicate]
   split
   ·exact⟨fun e=>by cases e; exact(hb rfl).elim,fun e=>by cases e⟩
   ·exact Iff.rfl
 refine⟨h.env,fun k l hk=>h.cells k l ((hT _ _ (fun e=>by cases e)).2 hk),fun k e s hk=>h.own k e s ((hT _ _ (fun e=>by cases e)).2 hk),fun k k' hk => ?_,h.inj,fun k kt l hk=>h.mp k kt l ((hT _ _ (fun e=>by cases e)).2 hk)⟩
 obtain⟨b,h1,h2⟩:=h.dom k k' hk
 exact⟨b,(hT _ _ h2).1 h1,h2⟩
theorem bok_trim (hB:BOK B tS):BOK B (trimT tS):=by
 intro k hk
 obtain⟨l,h1⟩:=hB k hk
 obtain⟨n,hn⟩:=trim_eq tS
 refine⟨l,?_⟩
 rw[hn,List.getElem?_append] at h1
 split at h1
 ·exact h1
 ·rw[List.getElem?_replicate] at h1
  split at h1<;>cases h1
section
variable (P:Program) (ty:Tys) (iso:IsoF) (call:CallF) (yf:YldF) (B:List Nat) (L:Nat) (fn:FuncId) (rnd:Bool)
def WT (c:Code) (te:List TV) (tS:List TB) (Q:DX→List TV→List TB→Prop):Prop :=
 ∀ ι env S,RelT ι te tS env S→BOK B tS→∃ e env' S' ι' te' tS',codeD P ty iso call yf L fn rnd c env S=some (e,env',S')∧RelT ι' te' tS' env' S'∧BOK B tS'∧Fr B ι S ι' S'∧Nn S.length S S'∧Q e te' tS'
end
section
variable {L:Nat} {fn:FuncId} {rnd:Bool} {a b c:Code} {Q Q':DX→List TV→List TB→Prop}
theorem WT.mono (h:WT P ty iso call yf B L fn rnd c te tS Q) (hq:∀ e te tS,Q e te tS→Q' e te tS):WT P ty iso call yf B L fn rnd c te tS Q':=by
 intro ι env S hR hB
 obtain⟨e,env',S',ι',te',tS',h1,h2,h3,h4,h5,h6⟩:=h ι env S hR hB
 exact⟨e,env',S',ι',te',tS',h1,h2,h3,h4,h5,hq _ _ _ h6⟩
theorem wt_skip (h:Q .normal te tS):WT P ty iso call yf B L fn rnd .skip te tS Q:=fun ι env S hR hB=>⟨.normal,env,S,ι,te,tS,rfl,hR,hB,Fr.refl _ _ _,nn_refl _ _,h⟩
theorem wt_label {l:Nat} (h:Q .normal te tS):WT P ty iso call yf B L fn rnd (.label l) te tS Q:=fun ι env S hR hB=>⟨.normal,env,S,ι,te,tS,rfl,hR,hB,Fr.refl _ _ _,nn_refl _ _,h⟩
theorem wt_exit {id:Nat} (h:Q (.exit id) te tS):WT P ty iso call yf B L fn rnd (.exit id) te tS Q:=fun ι env S hR hB=>⟨.exit id,env,S,ι,te,tS,rfl,hR,hB,Fr.refl _ _ _,nn_refl _ _,h⟩
theorem wt_ret (h:Q .ret te tS):WT P ty iso call yf B L fn rnd .ret te tS Q:=fun ι env S hR hB=>⟨.ret,env,S,ι,te,tS,rfl,hR,hB,Fr.refl _ _ _,nn_refl _ _,h⟩
theorem wt_scope (h:WT P ty iso call yf B L fn rnd c te tS Q):WT P ty iso call yf B L fn rnd (.scope c) te tS Q:=fun ι env S hR hB=>by
 obtain⟨e,env',S',ι',te',tS',h1,h2⟩:=h ι env S hR hB
 exact⟨e,env',S',ι',te',tS',by simp only[codeD,h1],h2⟩
theorem wt_seq (h:WT P ty iso call yf B L fn rnd a te tS fun e te tS=>match e with | .normal=>WT P ty iso call yf B L fn rnd b te tS Q | e=>Q e te tS):WT P ty iso call yf B L fn rnd (.seq a b) te tS Q:=by
 intro ι env S hR hB
 obtain⟨e,env',S',ι',te',tS',h1,h2,h3,h4,h5,h6⟩:=h ι env S hR hB
 cases e with
 | normal =>
  obtain⟨e,env'',S'',ι'',te'',tS'',k1,k2,k3,k4,k5,k6⟩:=h6 ι' env' S' h2 h3
  exact⟨e,env'',S'',ι'',te'',tS'',by simp only[codeD,h1,k1],k2,k3,h4.trans k4,nn_trans h5 k5,k6⟩
 | exit id=>exact⟨_,env',S',ι',te',tS',by simp only[codeD,h1],h2,h3,h4,h5,h6⟩
 | ret=>exact⟨_,env',S',ι',te',tS',by simp only[codeD,h1],h2,h3,h4,h5,h6⟩
theorem wt_cond {x:Operand} {t:Bool} (hx:evT te x=some (.val (.bool t))) (h1:t=true→WT P ty iso call yf B L fn rnd a te tS Q) (h2:t=false→WT P ty iso call yf B L fn rnd b te tS Q):WT P ty iso call yf B L fn rnd (.cond x a b) te tS Q:=by
 intro ι env S hR hB
 obtain⟨d,k1,k2⟩:=evT_ok hR.env hx
 cases d<;>simp only[RT] at k2
 subst k2
 cases t with
 | true =>
  obtain⟨e,env',S',ι',te',tS',m1,m2⟩:=h1 rfl ι env S hR hB
  exact⟨e,env',S',ι',te',tS',by simp only[codeD,k1,m1],m2⟩
 | false =>
  obtain⟨e,env',S',ι',te',tS',m1,m2⟩:=h2 rfl ι env S hR hB
  exact⟨e,env',S',ι',te',tS',by simp only[codeD,k1,m1],m2⟩
theorem wt_block {id:Nat} (h:WT P ty iso call yf B L fn rnd c te tS fun e te tS=>match e with | .exit id'=>Q (if id'=id then .normal else .exit id') te tS | e=>Q e te tS):WT P ty iso call yf B L fn rnd (.block id c) te tS Q:=by
 intro ι env S hR hB
 obtain⟨e,env',S',ι',te',tS',h1,h2,h3,h4,h5,h6⟩:=h ι env S hR hB
 cases e with
 | normal=>exact⟨_,env',S',ι',te',tS',by simp only[codeD,h1],h2,h3,h4,h5,h6⟩
 | exit id'=>exact⟨_,env',S',ι',te',tS',by simp only[codeD,h1],h2,h3,h4,h5,h6⟩
 | ret=>exact⟨_,env',S',ι',te',tS',by simp only[codeD,h1],h2,h3,h4,h5,h6⟩
theorem wt_less (hl:LeL te1 te) (hb:LeB tS1 tS) (hok:okB te1 tS1=true) (hB:∀ k,k∈B→liveB tS1 k=true) (h:WT P ty iso call yf B L fn rnd c te1 tS1 Q):WT P ty iso call yf B L fn rnd c te tS Q:=by
 intro ι env S hR hBk
 have hB1:=bok_less hb hBk hB
 obtain⟨ι1,h1,h2,-⟩:=rel_less hR hl hb hok hB1
 obtain⟨e,env',S',ι',te',tS',m1,m2,m3,m4,m5⟩:=h ι1 env S h1 hB1
 exact⟨e,env',S',ι',te',tS',m1,m2,m3,h2.trans m4,m5⟩
structure Fits (B:List Nat) (te1:List TV) (tS1:List TB) (te:List TV) (tS:List TB):Prop where
 l:LeL te1 te
 b:LeB tS1 tS
 ok:okB te1 tS1=true
 base:∀ k,k∈B→liveB tS1 k=true
theorem wt_loop {σ:Type} (f:σ→List TV×List TB) (good:σ→Prop) (m:σ→Nat) (s0:σ) (h0:Fits B (f s0).1 (f s0).2 te tS) (hg:good s0) (hm:m s0<L)
  (hstep:∀ s,good s→WT P ty iso call yf B L fn rnd c (f s).1 (f s).2 fun e te tS=>match e with | .normal=>∃ s',Fits B (f s').1 (f s').2 te tS∧good s'∧m s'<m s | e=>Q e te tS):WT P ty iso call yf B L fn rnd (.loop c) te tS Q:=by
 refine wt_less h0.l h0.b h0.ok h0.base ?_
 have key:∀ n s,good s→m s<n→∀ ι env S,RelT ι (f s).1 (f s).2 env S→BOK B (f s).2→∃ e env' S' ι' te' tS',iterD (codeD P ty iso call yf L fn rnd c) n env S=some (e,env',S')∧RelT ι' te' tS' env' S'∧BOK B tS'∧Fr B ι S ι' S'∧Nn S.length S S'∧Q e te' tS':=by
  intro n
  induction n with
  | zero=>intro s _ h; omega
  | succ n ih =>
   intro s hs hn ι env S hR hB
   obtain⟨e,env',S',ι',te',tS',h1,h2,h3,h4,h5,h6⟩:=hstep s hs ι env S hR hB
   cases e with
   | normal =>
    obtain⟨s',hf,hg',hlt⟩:=h6
    have hB1:=bok_less hf.b h3 hf.base
    obtain⟨ι1,k1,k2,-⟩:=rel_less h2 hf.l hf.b hf.ok hB1
    obtain⟨e,env'',S'',ι'',te'',tS'',m1,m2,m3,m4,m5,m6⟩:=ih s' hg' (by omega) ι1 env' S' k1 hB1
    exact⟨e,env'',S'',ι'',te'',tS'',by simp only[iterD,h1,m1],m2,m3,(h4.trans k2).trans m4,nn_trans h5 m5,m6⟩
   | exit id=>exact⟨_,env',S',ι',te',tS',by simp only[iterD,h1],h2,h3,h4,h5,h6⟩
   | ret=>exact⟨_,env',S',ι',te',tS',by simp only[iterD,h1],h2,h3,h4,h5,h6⟩
 intro ι env S hR hB
 obtain⟨e,env',S',ι',te',tS',h1,h2⟩:=key L s0 hg hm ι env S hR hB
 exact⟨e,env',S',ι',te',tS',by simp only[codeD]; exact h1,h2⟩
theorem wt_plain {id:Nat} (h:WL P ty iso call yf B ops 0 te tS fun te tS=>Q .normal te (trimT tS)):WT P ty iso call yf B L fn rnd (.region id ops false) te tS Q:=by
 intro ι env S hR hB
 obtain⟨env',S',ι',te',tS',h1,h2,h3,h4,h5,h6⟩:=h ι env S hR hB
 refine⟨.normal,env',S',ι',te',trimT tS',?_,rel_trim h2,bok_trim h3,h4,h5,h6⟩
 rw[List.drop_zero] at h1
 simp only[codeD,regionD,Bool.false_eq_true,if_false,h1,Option.map_some]
theorem wt_quiet {id:Nat} (hd:drawOk ops (Region.before ops)=true) (hl:loudR P ops=false) (h:WQ P ty iso call yf ops tS 0 te fun te=>Q .normal te tS):WT P ty iso call yf B L fn rnd (.region id ops true) te tS Q:=by
 intro ι env S hR hB
 obtain⟨env',te',h1,h2,h3⟩:=h ι env S hR
 refine⟨.normal,env',S,ι,te',tS,?_,h2,hB,Fr.refl _ _ _,nn_refl _ _,h3⟩
 rw[List.drop_zero] at h1
 simp only[loudR,Bool.or_eq_false_iff] at hl
 simp only[codeD,regionD,if_true,hd,hl.2,Bool.not_true,Bool.false_eq_true,if_false,h1,Option.map_some]
theorem wt_drawn {id:Nat} (hd:drawOk ops (Region.before ops)=true) (hn:loudR P ops=true) (h:WD P ty iso call yf B ops 0 te (tS++List.replicate ops.size .none) [] fun te tS=>Q .normal te (trimT tS)):WT P ty iso call yf B L fn rnd (.region id ops true) te tS Q:=by
 intro ι env S hR hB
 have hR':=rel_ext hR ops.size ops.size
 obtain⟨w,hw⟩:=wok_ex hR'
 have hB':BOK B (tS++List.replicate ops.size .none):=fun k hk=>by
  obtain⟨l,h1⟩:=hB k hk
  exact⟨l,by rw[List.getElem?_append_left (List.getElem?_eq_some_iff.1 h1).1]; exact h1⟩
 obtain⟨env',S',fs',ι',w',te',tS',ft,h1,h2,-,h4,h5,h6,h7,h8,h9⟩:=h ι w env (S++List.replicate ops.size .none) S.length hR' hB' hw (fun j _ hj=>by
  rw[List.getElem?_append_right (by omega),List.getElem?_replicate,if_pos (by omega)])
 refine⟨.normal,env',S',ι',te',trimT tS',?_,rel_trim h5,bok_trim h6,⟨fun k' hl hno => ?_,fun k k' hk => ?_,h7.base⟩,⟨?_,fun j hj hnone => ?_⟩,h9⟩
 ·rw[List.drop_zero] at h1
  simp only[codeD,regionD,if_true,hd,Bool.not_true,Bool.false_eq_true,if_false,loud_none hn,h1,met_ok h2 (by simpa using h4),Option.map_some]
 ·have e:=ext_get (n:=ops.size) hl
  rw[h7.rest k' (by obtain⟨b,e1,e2⟩:=hl; exact⟨b,e.trans e1,e2⟩) hno]
  exact e
 ·refine(h7.ours k k' hk).imp (fun e=>e) fun hnl hl=>hnl ?_
  obtain⟨b,e1,e2⟩:=hl
  exact⟨b,(ext_get ⟨b,e1,e2⟩).trans e1,e2⟩
 ·have:=h8.1
  rw[List.length_append] at this
  omega
 ·have hlt:=(List.getElem?_eq_some_iff.1 hnone).1
  exact h8.2 j (fun i _ _=>by omega) (by rw[List.getElem?_append_left hlt]; exact hnone)
end
end Go.Tv
end
section
namespace Go.Tv
open Go Go.Di
def pure1B:TV→Bool
 | .val v => !(v matches .tuple _)
 | .nils | .sl _ _ _=>true
 | _=>false
def pureB:TV→Bool
 | .agg l=>l.all pure1B
 | .val _ | .nils | .sl _ _ _=>true
 | _=>false
def norm1:TV→TV
 | .sl k l _ => .sl k l .no
 | .nils => .unk
 | v=>v
def normT:Option TT→TV→TV
 | some (.sl e),.nils => .sl e [] .no
 | _,.nils => .unk
 | _,.sl k l _ => .sl k l .no
 | some t,.agg l=>match t.of l with
  | some (x,[]) => .agg (t.cells x)
  | _ => .agg (l.map norm1)
 | none,.agg l => .agg (l.map norm1)
 | _,v=>v
def normL:List (Option TT)→List TV→List TV
 | _,[]=>[]
 | [],v::l=>normT none v::normL [] l
 | t::ts,v::l=>normT t v::normL ts l
def argTys (tt:TypeId→Option TT) (fs:List TV) (argTypes:Array TypeId):List (Option TT):=fs.map (fun _=>none)++argTypes.toList.map tt
variable {P:Program} {ty:Tys} {tt:TypeId→Option TT} {ι ι' w:Ids} {S S':Store} {te te1:List TV} {env:List DV} {tS tS1:List TB} {iso:IsoF} {call:CallF} {yf:YldF} {o:Oper} {nid nT:Nat} {B:List Nat} {r:TR} {ops:Array Oper}
mutual
theorem rt_norefs:∀ (v:TV) (d:DV),refs v=[]→RT ι S v d→RT ι' S' v d
 | .unk,_,_,_=>by simp only[RT]
 | .val _,d,_,k=>by cases d<;>simp only[RT] at k ⊢; exact k
 | .nils,d,_,k=>by cases d<;>simp only[RT] at k ⊢; exact k
 | .agg l,d,h,k=>by cases d<;>simp only[RT] at k ⊢; exact rtl_norefs l _ h k
 | .tup l,d,h,k=>by cases d<;>simp only[RT] at k ⊢; exact rtl_norefs l _ h k
 | .sl t l .no,d,_,k=>by cases d<;>simp only[RT] at k ⊢; exact k
 | .sl t l .full,d,_,k=>by cases d<;>simp only[RT] at k ⊢; exact k
 | .sl t l (.lab g),d,h,k=>by simp[refs] at h
 | .ptr id off,d,h,k=>by simp[refs] at h
 | .eptr t l i off,d,_,k=>by cases d<;>simp only[RT] at k ⊢; exact k
 | .mp id,d,h,k=>by simp[refs] at h
 | .fn f a b,d,h,k=>by
  cases d<;>simp only[RT] at k ⊢
  simp only[refs,List.append_eq_nil_iff] at h
  exact⟨k.1,rtl_norefs a _ h.1 k.2.1,rtl_norefs b _ h.2 k.2.2⟩
theorem rtl_norefs:∀ (l:List TV) (m:List DV),refsL l=[]→RTl ι S l m→RTl ι' S' l m
 | [],m,_,k=>by rw[rtl_nil' k]; exact rtl_nil
 | a::l,m,h,k=>by
  obtain⟨d,m',rfl,h1,h2⟩:=rtl_cases k
  simp only[refsL,List.append_eq_nil_iff] at h
  exact rtl_cons (rt_norefs a d h.1 h1) (rtl_norefs l m' h.2 h2)
end
theorem strip_pure1 {v:TV} {d:DV} (hp:pure1B v=true) (h:RT ι S v d):d.strip1.pure1=true∧RT ι' S' (norm1 v) d.strip1:=by
 cases v<;>first | (cases hp; done) | skip
 ·cases d<;>simp only[RT] at h
  subst h
  exact⟨hp,by simp only[norm1,RT,DV.strip1]⟩
 ·cases d<;>simp only[RT] at h
  exact⟨rfl,by simp only[norm1,RT]⟩
 ·cases d<;>simp only[RT] at h
  exact⟨rfl,by simp only[norm1,RT,DV.strip1]; exact⟨h.1,trivial⟩⟩
theorem strip_pureL:∀ {l:List TV} {m:List DV},l.all pure1B=true→RTl ι S l m→(m.map DV.strip1).all DV.pure1=true∧RTl ι' S' (l.map norm1) (m.map DV.strip1)
 | [],m,_,h=>by rw[rtl_nil' h]; exact⟨rfl,rtl_nil⟩
 | a::l,m,hp,h=>by
  obtain⟨d,m',rfl,h1,h2⟩:=rtl_cases h
  simp only[List.all_cons,Bool.and_eq_true] at hp
  obtain⟨k1,k2⟩:=strip_pure1 (ι':=ι') (S':=S') hp.1 h1
  obtain⟨k3,k4⟩:=strip_pureL hp.2 h2
  exact⟨by simp[k1] at k3 ⊢; exact k3,rtl_cons k2 k4⟩
theorem of_cells:∀ {t:TT} {l:List TV} {x:t.den} {r:List TV} {m:List DV},t.of l=some (x,r)→RTl ι S l m→∃ c m',m=c++m'∧RTl ι' S' (t.cells x) c∧RTl ι S r m'
 | .int k,l,x,r,m,h,hm=>by
  simp only[TT.of] at h
  unfold ofInt at h
  split at h
  ·split at h
   ·rename_i hk
    cases h
    obtain⟨d,m',rfl,h1,h2⟩:=rtl_cases hm
    cases d<;>simp only[RT] at h1
    subst h1
    subst hk
    exact⟨[_],m',rfl,rtl_one (by simp only[RT]),h2⟩
   ·cases h
  ·cases h
 | .bool,l,x,r,m,h,hm=>by
  simp only[TT.of] at h
  unfold ofBool at h
  split at h
  ·cases h
   obtain⟨d,m',rfl,h1,h2⟩:=rtl_cases hm
   cases d<;>simp only[RT] at h1
   subst h1
   exact⟨[_],m',rfl,rtl_one (by simp only[RT]),h2⟩
  ·cases h
 | .str,l,x,r,m,h,hm=>by
  simp only[TT.of] at h
  unfold ofStr at h
  split at h
  ·cases h
   obtain⟨d,m',rfl,h1,h2⟩:=rtl_cases hm
   cases d<;>simp only[RT] at h1
   subst h1
   exact⟨[_],m',rfl,rtl_one (by simp only[RT]),h2⟩
  ·cases h
 | .unit,l,x,r,m,h,hm=>by
  simp only[TT.of] at h
  cases h
  exact⟨[],m,rfl,rtl_nil,hm⟩
 | .pair a b,l,x,r,m,h,hm=>by
  simp only[TT.of] at h
  split at h
  ·rename_i x1 r1 h1
   split at h
   ·rename_i y r2 h2
    cases h
    obtain⟨c,m1,rfl,k1,k2⟩:=of_cells h1 hm
    obtain⟨c',m2,rfl,k3,k4⟩:=of_cells h2 k2
    exact⟨c++c',m2,by simp,rtl_append k1 k3,k4⟩
   ·cases h
  ·cases h
 | .sl t,l,x,r,m,h,hm=>by
  simp only[TT.of] at h
  unfold ofSl at h
  split at h
  ·split at h
   ·rename_i ht
    subst ht
    cases h
    obtain⟨d,m',rfl,h1,h2⟩:=rtl_cases hm
    cases d<;>simp only[RT] at h1
    exact⟨[_],m',rfl,rtl_one (by simp only[RT]; exact⟨h1.1,trivial⟩),h2⟩
   ·cases h
  ·cases h
   obtain⟨d,m',rfl,h1,h2⟩:=rtl_cases hm
   cases d<;>simp only[RT] at h1
   obtain⟨rfl,rfl,rfl⟩:=h1
   exact⟨[_],m',rfl,rtl_one (by simp only[RT,RowsR]; exact⟨trivial,trivial⟩),h2⟩
  ·cases h
theorem norm_strip {t:Option TT} {v:TV} {d:DV} (hp:pureB v=true) (h:RT ι S v d):d.strip.pure=true∧(∀ l,d ≠ .tup l)∧RT ι' S' (normT t v) d.strip:=by
 cases v with
 | agg l =>
  cases d<;>simp only[RT] at h
  rename_i m
  obtain⟨k1,k2⟩:=strip_pureL (ι':=ι') (S':=S') hp h
  refine⟨k1,fun _ e=>(by cases e),?_⟩
  cases t with
  | none=>simp only[normT,RT,DV.strip,DV.strip2]; exact k2
  | some t =>
   have e:normT (some t) (.agg l)=match t.of l with | some (x,[]) => .agg (t.cells x) | _ => .agg (l.map norm1):=by cases t<;>rfl
   rw[e]
   split
   ·rename_i x ho
    obtain⟨c,m',rfl,n1,n2⟩:=of_cr ho h
    rw[rtl_nil' n2,List.append_nil]
    simp only[RT,DV.strip,DV.strip2]
    exact cr_cells n1
   ·simp only[RT,DV.strip,DV.strip2]; exact k2
 | val u =>
  cases d<;>simp only[RT] at h
  rename_i u'
  subst h
  refine⟨rfl,fun _ e=>(by cases e),?_⟩
  have e:normT t (.val u') = .val u':=by cases t with | none=>rfl | some t=>cases t<;>rfl
  rw[e]
  simp only[RT,DV.strip,DV.strip2]
 | nils =>
  cases d<;>simp only[RT] at h
  obtain⟨rfl,rfl,rfl⟩:=h
  refine⟨rfl,fun _ e=>(by cases e),?_⟩
  cases t with
  | none=>simp only[normT,RT]
  | some t =>
   cases t with
   | sl e=>simp only[normT,RT,DV.strip,DV.strip2,RowsR]; exact⟨trivial,trivial⟩
   | _=>simp only[normT,RT]
 | sl k l ap =>
  cases d<;>simp only[RT] at h
  refine⟨rfl,fun _ e=>(by cases e),?_⟩
  have e:normT t (.sl k l ap) = .sl k l .no:=by cases t with | none=>rfl | some t=>cases t<;>rfl
  rw[e]
  simp only[RT,DV.strip,DV.strip2]
  exact⟨h.1,trivial⟩
 | _=>cases hp
theorem norm_plain {t:Option TT} {v:TV} {d:DV} (hp:pureB v=true) (h:RT ι S v d):RT ι' S' (normT t v) d:=by
 have n1:∀ {l:List TV} {m:List DV},l.all pure1B=true→RTl ι S l m→RTl ι' S' (l.map norm1) m:=by
  intro l
  induction l with
  | nil=>intro m _ h; rw[rtl_nil' h]; exact rtl_nil
  | cons a l ih =>
   intro m hp h
   obtain⟨d,m',rfl,h1,h2⟩:=rtl_cases h
   simp only[List.all_cons,Bool.and_eq_true] at hp
   refine rtl_cons ?_ (ih hp.2 h2)
   cases a<;>first | (cases hp.1; done) | skip
   ·cases d<;>simp only[RT] at h1
    simp only[norm1,RT]; exact h1
   ·simp only[norm1,RT]
   ·cases d<;>simp only[RT] at h1
    simp only[norm1,RT]; exact⟨h1.1,trivial⟩
 cases v with
 | agg l =>
  cases d<;>simp only[RT] at h
  rename_i m
  cases t with
  | none=>simp only[normT,RT]; exact n1 hp h
  | some t =>
   have e:normT (some t) (.agg l)=match t.of l with | some (x,[]) => .agg (t.cells x) | _ => .agg (l.map norm1):=by cases t<;>rfl
   rw[e]
   split
   ·rename_i x ho
    obtain⟨c,m',rfl,k1,k2⟩:=of_cells (ι':=ι') (S':=S') ho h
    rw[rtl_nil' k2,List.append_nil]
    simp only[RT]
    exact k1
   ·simp only[RT]; exact n1 hp h
 | val u =>
  cases d<;>simp only[RT] at h
  have e:normT t (.val u) = .val u:=by cases t with | none=>rfl | some t=>cases t<;>rfl
  rw[e]
  simp only[RT]
  exact h
 | nils =>
  cases d<;>simp only[RT] at h
  obtain⟨rfl,rfl,rfl⟩:=h
  cases t with
  | none=>simp only[normT,RT]
  | some t =>
   cases t with
   | sl e=>simp only[normT,RT,RowsR]; exact⟨trivial,trivial⟩
   | _=>simp only[normT,RT]
 | sl k l ap =>
  cases d<;>simp only[RT] at h
  have e:normT t (.sl k l ap) = .sl k l .no:=by cases t with | none=>rfl | some t=>cases t<;>rfl
  rw[e]
  simp only[RT]
  exact⟨h.1,trivial⟩
 | _=>cases hp
theorem normL_strip:∀ {ts:List (Option TT)} {l:List TV} {m:List DV},l.all pureB=true→RTl ι S l m→(m.map DV.strip).all DV.pure=true∧RTl ι' S' (normL ts l) (m.map DV.strip)
 | _,[],m,_,h=>by rw[rtl_nil' h]; exact⟨rfl,by simp only[normL,List.map_nil]; exact rtl_nil⟩
 | [],a::l,m,hp,h=>by
  obtain⟨d,m',rfl,h1,h2⟩:=rtl_cases h
  simp only[List.all_cons,Bool.and_eq_true] at hp
  obtain⟨k1,-,k2⟩:=norm_strip (t:=none) (ι':=ι') (S':=S') hp.1 h1
  obtain⟨k3,k4⟩:=normL_strip (ts:=[]) hp.2 h2
  refine⟨?_,by simp only[normL,List.map_cons]; exact rtl_cons k2 k4⟩
  rw[List.map_cons,List.all_cons,k1,k3]; rfl
 | t::ts,a::l,m,hp,h=>by
  obtain⟨d,m',rfl,h1,h2⟩:=rtl_cases h
  simp only[List.all_cons,Bool.and_eq_true] at hp
  obtain⟨k1,-,k2⟩:=norm_strip (t:=t) (ι':=ι') (S':=S') hp.1 h1
  obtain⟨k3,k4⟩:=normL_strip (ts:=ts) hp.2 h2
  refine⟨?_,by simp only[normL,List.map_cons]; exact rtl_cons k2 k4⟩
  rw[List.map_cons,List.all_cons,k1,k3]; rfl
theorem normL_plain:∀ {ts:List (Option TT)} {l:List TV} {m:List DV},l.all pureB=true→RTl ι S l m→RTl ι' S' (normL ts l) m
 | _,[],m,_,h=>by rw[rtl_nil' h]; simp only[normL]; exact rtl_nil
 | [],a::l,m,hp,h=>by
  obtain⟨d,m',rfl,h1,h2⟩:=rtl_cases h
  simp only[List.all_cons,Bool.and_eq_true] at hp
  simp only[normL]
  exact rtl_cons (norm_plain hp.1 h1) (normL_plain hp.2 h2)
 | t::ts,a::l,m,hp,h=>by
  obtain⟨d,m',rfl,h1,h2⟩:=rtl_cases h
  simp only[List.all_cons,Bool.and_eq_true] at hp
  simp only[normL]
  exact rtl_cons (norm_plain hp.1 h1) (normL_plain hp.2 h2)
def noIds:Ids:=fun _=>none
def ISpec (iso:IsoF) (g:FuncId) (targs:List TV) (Q:TV→Prop):Prop :=
 ∀ dargs,RTl noIds [] targs dargs→∃ d v,iso g dargs=some d∧d.pure=true∧RT noIds [] v d∧refs v=[]∧Q v
theorem ISpec.mono {g:FuncId} {targs:List TV} {Q Q':TV→Prop} (h:ISpec iso g targs Q) (hq:∀ v,Q v→Q' v):ISpec iso g targs Q':=fun dargs hd=>by
 obtain⟨d,v,h1,h2,h3,h4,h5⟩:=h dargs hd
 exact⟨d,v,h1,h2,h3,h4,hq v h5⟩
theorem icall_args (hE:RTl ι S te env) {f:Operand} {args:Array Operand} {g:FuncId} {fs cs xs:List TV} (hf:evT te f=some (.fn g fs cs)) (ha:evsT te args.toList=some xs) :
  ∃ fs' cs' xs',evD env f=some (.fn g fs' cs')∧evs (evD env) args.toList=some xs'∧RTl ι S (fs++xs++cs) (fs'++xs'++cs'):=by
 obtain⟨d,k1,k2⟩:=evT_ok hE hf
 obtain⟨xs',k3,k4⟩:=evsT_ok hE ha
 cases d<;>simp only[RT] at k2
 obtain⟨rfl,k5,k6⟩:=k2
 exact⟨_,_,xs',k1,k3,rtl_append (rtl_append k5 k4) k6⟩
theorem does_icall {f:Operand} {args:Array Operand} {argTypes:Array TypeId} {g:FuncId} {fs cs xs targs:List TV} {Q:TV→Prop} (hop:o.op = .call { callee := .value f,args,argTypes }) (hf:evT te f=some (.fn g fs cs)) (ha:evsT te args.toList=some xs) (hp:(fs++xs++cs).all pureB=true)
  (hn:normL (argTys tt fs argTypes) (fs++xs++cs)=targs) (hs:ISpec iso g targs Q) (dr:Bool):Does P ty iso call yf B o nT te tS dr fun v te' tS' ft=>Q v∧te'=te∧tS'=tS∧ft=⟨some [],false⟩:=by
 intro ι w env S nid hR hB hw hT hnd hS
 obtain⟨fs',cs',xs',k1,k2,k3⟩:=icall_args hR.env hf ha
 obtain⟨k4,k5⟩:=normL_strip (ts:=argTys tt fs argTypes) (ι':=noIds) (S':=[]) hp k3
 rw[hn] at k5
 obtain⟨d,v,m1,m2,m3,m4,m5⟩:=hs _ k5
 refine⟨d,S,ι,w,v,te,tS,⟨some [],false⟩,⟨some [],false⟩,fun _ => ?_,fun hd => ?_,⟨id,fun l hl=>⟨[],rfl,fun j hj=>(by cases hj)⟩⟩,fun l m _ hm j hj=>(by cases hm; cases hj),hR,rt_norefs _ _ m4 m3,hw,fun _ _ _=>rfl,Fr.refl _ _ _,hB,nn_refl _ _,m5,rfl,rfl,rfl⟩
 ·simp only[stepOp,hop,k1,k2,callD,k4,if_true,m1]
 ·simp only[stepDr,hop,k1,k2,k4,if_true,m1,Option.map_some]
theorem wq_icall {k:Nat} {f:Operand} {args:Array Operand} {argTypes:Array TypeId} {g:FuncId} {fs cs xs targs:List TV} {K:TV→Prop} {Q:List TV→Prop} (ho:ops[k]? = some o) (hw:wantedT ops te o=some true) (hop:o.op = .call { callee := .value f,args,argTypes }) (hf:evT te f=some (.fn g fs cs)) (ha:evsT te args.toList=some xs) (hp:(fs++xs++cs).all pureB=true)
  (hn:normL (argTys tt fs argTypes) (fs++xs++cs)=targs) (hs:ISpec iso g targs K) (h:∀ v,K v→WQ P ty iso call yf ops tS (k+1) (putTV te o.dst v) Q):WQ P ty iso call yf ops tS k te Q:=by
 intro ι env S hR
 obtain⟨fs',cs',xs',k1,k2,k3⟩:=icall_args hR.env hf ha
 obtain⟨k4,k5⟩:=normL_strip (ts:=argTys tt fs argTypes) (ι':=noIds) (S':=[]) hp k3
 rw[hn] at k5
 obtain⟨d,v,m1,m2,m3,m4,m5⟩:=hs _ k5
 obtain⟨env',te',n1,n2,n3⟩:=h v m5 ι (putD env o.dst d) S (rel_put hR (rt_norefs _ _ m4 m3) _)
 refine⟨env',te',?_,n2,n3⟩
 rw[drop_op ho]
 have hq:quietOp P ty iso call yf (evD env) o S=some d:=by simp only[quietOp,hop,k1,k2,k4,if_true,m1]
 simp only[runQ,wantedT_ok hR.env hw,if_true,hq,n1]
def isRef:TV→Bool
 | .ptr _ _ | .fn _ _ _=>true
 | _=>false
def capP (kp:Nat) (t:Option TT):TV→Option TV
 | .ptr k off=>if k=kp then some (.ptr 0 off) else none
 | v=>if pureB v then some (normT t v) else none
def capsP (kp:Nat):List TV→Option (List TV)
 | []=>some []
 | v::l=>match capP kp none v,capsP kp l with
  | some a,some b=>some (a::b)
  | _,_=>none
def argP (kp:Nat) (t:Option TT):TV→Option TV
 | .fn g fs cs=>match capsP kp fs,capsP kp cs with
  | some a,some b=>some (.fn g a b)
  | _,_=>none
 | v=>capP kp t v
def argsP (kp:Nat):List (Option TT)→List TV→Option (List TV)
 | _,[]=>some []
 | [],v::l=>match argP kp none v,argsP kp [] l with
  | some a,some b=>some (a::b)
  | _,_=>none
 | t::ts,v::l=>match argP kp t v,argsP kp ts l with
  | some a,some b=>some (a::b)
  | _,_=>none
def oneId (id:Nat):Ids:=fun j=>if j=0 then some id else none
theorem capP_ok {kp id:Nat} {t:Option TT} {v v':TV} {d:DV} (hk:ι kp=some id) (h:capP kp t v=some v') (hv:RT ι S v d):RT (oneId id) S v' d:=by
 unfold capP at h
 split at h
 ·split at h
  ·rename_i k off hkk
   subst hkk
   cases h
   cases d<;>simp only[RT] at hv ⊢
   rw[hk] at hv
   exact⟨hv.1,hv.2⟩
  ·cases h
 ·split at h
  ·rename_i hp
   cases h
   exact norm_plain hp hv
  ·cases h
theorem capsP_ok {kp id:Nat} (hk:ι kp=some id):∀ {l l':List TV} {m:List DV},capsP kp l=some l'→RTl ι S l m→RTl (oneId id) S l' m
 | [],l',m,h,hv=>by cases h; rw[rtl_nil' hv]; exact rtl_nil
 | v::l,l',m,h,hv=>by
  obtain⟨d,m',rfl,h1,h2⟩:=rtl_cases hv
  simp only[capsP] at h
  split at h
  ·rename_i a b e1 e2
   cases h
   exact rtl_cons (capP_ok hk e1 h1) (capsP_ok hk e2 h2)
  ·cases h
theorem argP_ok {kp id:Nat} {t:Option TT} {v v':TV} {d:DV} (hk:ι kp=some id) (h:argP kp t v=some v') (hv:RT ι S v d):RT (oneId id) S v' d:=by
 unfold argP at h
 split at h
 ·split at h
  ·rename_i g fs cs a b e1 e2
   cases h
   cases d<;>simp only[RT] at hv ⊢
   exact⟨hv.1,capsP_ok hk e1 hv.2.1,capsP_ok hk e2 hv.2.2⟩
  ·cases h
 ·exact capP_ok hk h hv
theorem argsP_ok {kp id:Nat} (hk:ι kp=some id):∀ {ts:List (Option TT)} {l l':List TV} {m:List DV},argsP kp ts l=some l'→RTl ι S l m→RTl (oneId id) S l' m
 | _,[],l',m,h,hv=>by simp only[argsP] at h; cases h; rw[rtl_nil' hv]; exact rtl_nil
 | [],v::l,l',m,h,hv=>by
  obtain⟨d,m',rfl,h1,h2⟩:=rtl_cases hv
  simp only[argsP] at h
  split at h
  ·rename_i a b e1 e2
   cases h
   exact rtl_cons (argP_ok hk e1 h1) (argsP_ok hk e2 h2)
  ·cases h
 | t::ts,v::l,l',m,h,hv=>by
  obtain⟨d,m',rfl,h1,h2⟩:=rtl_cases hv
  simp only[argsP] at h
  split at h
  ·rename_i a b e1 e2
   cases h
   exact rtl_cons (argP_ok hk e1 h1) (argsP_ok hk e2 h2)
  ·cases h
theorem ref_impure:∀ {l:List TV} {m:List DV},l.any isRef=true→RTl ι S l m→(m.map DV.strip).all DV.pure=false
 | [],_,h,_=>by cases h
 | v::l,m,h,hv=>by
  obtain⟨d,m',rfl,h1,h2⟩:=rtl_cases hv
  simp only[List.any_cons,Bool.or_eq_true] at h
  rw[List.map_cons,List.all_cons]
  rcases h with h | h
  ·cases v<;>first | (cases h; done) | skip
   ·cases d<;>simp only[RT] at h1; rfl
   ·cases d<;>simp only[RT] at h1; rfl
  ·rw[ref_impure h h2,Bool.and_false]
def CSpec (call:CallF) (g:FuncId) (targs ts:List TV) (Q:TV→List TV→Prop):Prop :=
 ∀ ι dargs S,RelT ι targs [.cells ts] dargs S→∃ d S' ι' v ts' k' ds',call g dargs S=some (d,S')∧RT ι' S' v d∧refs v=[]∧refsL ts'=[]∧ι 0=some k'∧S'[k']? = some (.cells ds')∧RTl ι' S' ts' ds'∧Fr [0] ι S ι' S'∧Nn S.length S S'∧Q v ts'
theorem CSpec.mono {g:FuncId} {targs ts:List TV} {Q Q':TV→List TV→Prop} (h:CSpec call g targs ts Q) (hq:∀ v ts,Q v ts→Q' v ts):CSpec call g targs ts Q':=fun ι dargs S hd=>by
 obtain⟨d,S',ι',v,ts',k',ds',h1,h2,h3,h4,h5,h6,h7,h8,h9,h10⟩:=h ι dargs S hd
 exact⟨d,S',ι',v,ts',k',ds',h1,h2,h3,h4,h5,h6,h7,h8,h9,hq _ _ h10⟩
theorem does_pcall {f:Operand} {args:Array Operand} {argTypes:Array TypeId} {g:FuncId} {fs cs xs targs ts:List TV} {kp:Nat} {Q:TV→List TV→Prop} (hop:o.op = .call { callee := .value f,args,argTypes }) (hf:evT te f=some (.fn g fs cs)) (ha:evsT te args.toList=some xs)
  (hn:argsP kp (argTys tt fs argTypes) (fs++xs++cs)=some targs) (hr:(fs++xs++cs).any isRef=true) (hts:tS[kp]? = some (.cells ts)) (hr2:refsL ts=[]) (hs:CSpec call g targs ts Q):Does P ty iso call yf B o nT te tS false fun v te' tS' ft=>∃ ts',Q v ts'∧te'=te∧tS'=tS.set kp (.cells ts')∧ft=⟨none,true⟩:=by
 intro ι w env S nid hR hB hw hT hnd hS
 obtain⟨fs',cs',xs',k1,k2,k3⟩:=icall_args hR.env hf ha
 obtain⟨id',ds,k6,m2,m3⟩:=hR.cells kp ts hts
 have hc:RelT (oneId id') targs [.cells ts] (fs'++xs'++cs') S:=by
  refine⟨argsP_ok k6 hn k3,fun k l hk => ?_,fun k e s hk => ?_,fun k k' hk => ?_,fun i j k' hi hj => ?_,fun k kt l hk=>by cases k<;>simp at hk⟩
  ·cases k with
   | zero =>
    cases hk
    exact⟨id',ds,rfl,m2,rtl_norefs _ _ hr2 m3⟩
   | succ k=>simp at hk
  ·cases k<;>simp at hk
  ·by_cases h0:k=0
   ·subst h0; exact⟨_,rfl,fun e=>by cases e⟩
   ·simp only[oneId,h0,if_false] at hk; cases hk
  ·by_cases hi0:i=0<;>by_cases hj0:j=0
   ·rw[hi0,hj0]
   ·simp only[oneId,hj0,if_false] at hj; cases hj
   ·simp only[oneId,hi0,if_false] at hi; cases hi
   ·simp only[oneId,hi0,if_false] at hi; cases hi
 obtain⟨d,S',ι',v,ts',k',ds',n1,n2,n3,n4,n5,n6,n7,n8,n9,n10⟩:=hs _ _ S hc
 simp only[oneId,if_true,Option.some.injEq] at n5
 subst n5
 have hkeep:∀ k k0,k≠kp→ι k=some k0→S'[k0]? = S[k0]? := by
  intro k k0 hk h0
  refine n8.rest k0 (hR.live h0) fun j hj => ?_
  by_cases hj0:j=0
  ·subst hj0
   simp only[oneId,if_true,Option.some.injEq] at hj
   subst hj
   exact hk (hR.inj _ _ _ h0 k6)
  ·simp only[oneId,hj0,if_false] at hj; cases hj
 have K:Keeps ι S ι S' fun _=>False:=fun k k0 _ hk=>⟨hk,fun e s n hs=>by
  by_cases hkk:k=kp
  ·subst hkk
   rw[k6] at hk
   cases hk
   rw[m2] at hs
   cases hs
  ·rw[hkeep k k0 hkk hk]; exact hs⟩
 have hnp:=ref_impure hr k3
 refine⟨d,S',ι,w,v,te,tS.set kp (.cells ts'),⟨none,true⟩,⟨none,true⟩,fun _ => ?_,fun hd=>(by cases hd),⟨fun e=>e,fun l hl=>(by cases hl)⟩,fun l m hl=>(by cases hl),?_,rt_norefs _ _ n3 n2,hw,fun _ _ _=>rfl,⟨fun k0 hl hno=>n8.rest k0 hl fun j hj => ?_,fun k k0 hk => .inl ⟨k,hk⟩,fun _ _=>rfl⟩,fun k hk => ?_,⟨n9.1,fun j hj hnone => ?_⟩,ts',n10,rfl,rfl,rfl⟩
 ·simp only[stepOp,hop,k1,k2,callD,hnp,Bool.false_eq_true,if_false,n1]
 ·refine⟨rtl_mono K _ _ hR.env,fun k l hk => ?_,fun k e s hk t ht => ?_,fun k k0 hk => ?_,hR.inj,fun k kt l hk t ht=>by
   rw[List.getElem?_set] at hk
   split at hk
   ·split at hk<;>cases hk
   ·rename_i e1
    rw[hkeep k t (fun e=>e1 e.symm) ht]; exact hR.mp k kt l hk t ht⟩
  ·rw[List.getElem?_set] at hk
   split at hk
   ·rename_i e1
    subst e1
    split at hk
    ·cases hk
     exact⟨id',ds',k6,n6,rtl_norefs _ _ n4 n7⟩
    ·cases hk
   ·rename_i e1
    obtain⟨k0,ds0,q1,q2,q3⟩:=hR.cells k l hk
    exact⟨k0,ds0,q1,by rw[hkeep k k0 (Ne.symm e1) q1]; exact q2,rtl_mono K _ _ q3⟩
  ·rw[List.getElem?_set] at hk
   split at hk
   ·split at hk<;>cases hk
   ·obtain⟨n,q1⟩:=hR.own k e s hk t ht
    exact⟨n,(K k t (fun e=>e) ht).2 _ _ _ q1⟩
  ·rw[List.getElem?_set]
   split
   ·rename_i e1
    subst e1
    exact⟨_,if_pos (List.getElem?_eq_some_iff.1 hts).1,fun e=>by cases e⟩
   ·exact hR.dom k k0 hk
 ·by_cases hj0:j=0
  ·subst hj0
   simp only[oneId,if_true,Option.some.injEq] at hj
   subst hj
   exact hno _ k6
  ·simp only[oneId,hj0,if_false] at hj; cases hj
 ·rw[List.getElem?_set]
  split
  ·rename_i e1
   subst e1
   exact⟨_,if_pos (List.getElem?_eq_some_iff.1 hts).1⟩
  ·exact hB k hk
 ·have:=(List.getElem?_eq_some_iff.1 hnone).1
  exact n9.2 j (by omega) hnone
def flat1:TV→Bool
 | .val v => !(v matches .tuple _)
 | .sl _ _ .no=>true
 | _=>false
def flat2:TV→Bool
 | .agg l=>l.all flat1
 | .val _ | .sl _ _ .no=>true
 | _=>false
def flatR:TV→Bool
 | .tup l=>l.all flat2
 | v=>flat2 v
theorem flat1_strip {v:TV} {d:DV} (hp:flat1 v=true) (h:RT ι S v d):d.strip1.pure1=true∧RT ι' S' v d.strip1:=by
 cases v<;>first | (cases hp; done) | skip
 ·cases d<;>simp only[RT] at h
  subst h
  exact⟨hp,by simp only[RT,DV.strip1]⟩
 ·rename_i t l ap
  cases ap<;>first | (cases hp; done) | skip
  cases d<;>simp only[RT] at h
  exact⟨rfl,by simp only[RT,DV.strip1]; exact⟨h.1,trivial⟩⟩
theorem flat1_stripL:∀ {l:List TV} {m:List DV},l.all flat1=true→RTl ι S l m→(m.map DV.strip1).all DV.pure1=true∧RTl ι' S' l (m.map DV.strip1)
 | [],m,_,h=>by rw[rtl_nil' h]; exact⟨rfl,rtl_nil⟩
 | a::l,m,hp,h=>by
  obtain⟨d,m',rfl,h1,h2⟩:=rtl_cases h
  simp only[List.all_cons,Bool.and_eq_true] at hp
  obtain⟨k1,k2⟩:=flat1_strip (ι':=ι') (S':=S') hp.1 h1
  obtain⟨k3,k4⟩:=flat1_stripL hp.2 h2
  exact⟨by rw[List.map_cons,List.all_cons,k1,k3]; rfl,rtl_cons k2 k4⟩
theorem flat2_strip {v:TV} {d:DV} (hp:flat2 v=true) (h:RT ι S v d):d.strip2.pure2=true∧RT ι' S' v d.strip2:=by
 cases v<;>first | (cases hp; done) | skip
 ·cases d<;>simp only[RT] at h
  subst h
  exact⟨rfl,by simp only[RT,DV.strip2]⟩
 ·cases d<;>simp only[RT] at h
  obtain⟨k1,k2⟩:=flat1_stripL (ι':=ι') (S':=S') hp h
  exact⟨k1,by simp only[RT,DV.strip2]; exact k2⟩
 ·rename_i t l ap
  cases ap<;>first | (cases hp; done) | skip
  cases d<;>simp only[RT] at h
  exact⟨rfl,by simp only[RT,DV.strip2]; exact⟨h.1,trivial⟩⟩
theorem flat2_stripL:∀ {l:List TV} {m:List DV},l.all flat2=true→RTl ι S l m→(m.map DV.strip2).all DV.pure2=true∧RTl ι' S' l (m.map DV.strip2)
 | [],m,_,h=>by rw[rtl_nil' h]; exact⟨rfl,rtl_nil⟩
 | a::l,m,hp,h=>by
  obtain⟨d,m',rfl,h1,h2⟩:=rtl_cases h
  simp only[List.all_cons,Bool.and_eq_true] at hp
  obtain⟨k1,k2⟩:=flat2_strip (ι':=ι') (S':=S') hp.1 h1
  obtain⟨k3,k4⟩:=flat2_stripL hp.2 h2
  exact⟨by rw[List.map_cons,List.all_cons,k1,k3]; rfl,rtl_cons k2 k4⟩
theorem flatR_strip {v:TV} {d:DV} (hp:flatR v=true) (h:RT ι S v d):d.strip.pure=true∧RT ι' S' v d.strip:=by
 by_cases hd:∃ l,d = .tup l
 ·obtain⟨m,rfl⟩:=hd
  cases v<;>simp only[RT] at h<;>first | (cases hp; done) | skip
  obtain⟨k1,k2⟩:=flat2_stripL (ι':=ι') (S':=S') hp h
  exact⟨k1,by simp only[RT,DV.strip]; exact k2⟩
 ·have hv:flat2 v=true:=by
   cases v<;>first | exact hp | skip
   cases d<;>simp only[RT] at h
   exact(hd ⟨_,rfl⟩).elim
  obtain⟨k1,k2⟩:=flat2_strip (ι':=ι') (S':=S') hv h
  have e:d.strip=d.strip2:=by cases d<;>first | rfl | exact(hd ⟨_,rfl⟩).elim
  refine⟨?_,by rw[e]; exact k2⟩
  rw[e]
  have:∀ c:DV,c.pure2=true→(∀ l,c ≠ .tup l)→c.pure=true:=fun c h hn=>by cases c<;>first | exact h | exact(hn _ rfl).elim
  refine this _ k1 fun l hl => ?_
  cases d<;>simp only[DV.strip2] at hl<;>first | (cases hl; done) | exact hd ⟨_,rfl⟩
theorem does_pcallD {f:Operand} {args:Array Operand} {argTypes:Array TypeId} {g:FuncId} {fs cs xs rest ts:List TV} {kp off:Nat} {Q:TV→List TV→Prop} (hop:o.op = .call { callee := .value f,args,argTypes }) (hf:evT te f=some (.fn g fs cs)) (ha:evsT te args.toList=some xs)
  (hl:fs++xs++cs = .ptr kp off::rest) (hp:rest.all pureB=true) (hts:tS[kp]? = some (.cells ts)) (hfl:ts.all flat1=true) (hs:CSpec call g (.ptr 0 off::normL (argTys tt fs argTypes).tail rest) ts Q) (hq:∀ v ts',Q v ts'→flatR v=true∧ts'.all flat1=true) :
  Does P ty iso call yf B o nT te tS true fun v te' tS' ft=>∃ ts',Q v ts'∧te'=te∧tS'=tS.set kp (.cells ts')∧ft=⟨some [kp],true⟩:=by
 intro ι w env S nid hR hB hw hT hnd hS
 obtain⟨fs',cs',xs',k1,k2,k3⟩:=icall_args hR.env hf ha
 obtain⟨id',ds,k6,m2,m3⟩:=hR.cells kp ts hts
 rw[hl] at k3
 obtain⟨d0,m0,hm0,hv0,hr0⟩:=rtl_cases k3
 have hd0:d0 = .ptr id' off:=by
  cases d0<;>simp only[RT] at hv0
  obtain⟨e1,e2⟩:=hv0
  rw[k6] at e1
  cases e1
  rw[e2]
 subst hd0
 obtain⟨p1,p2⟩:=normL_strip (ts:=(argTys tt fs argTypes).tail) (ι':=oneId 0) (S':=[.cells (ds.map DV.strip1)]) hp hr0
 obtain⟨c1,c2⟩:=flat1_stripL (ι':=oneId 0) (S':=[.cells (ds.map DV.strip1)]) hfl m3
 have hc:RelT (oneId 0) (.ptr 0 off::normL (argTys tt fs argTypes).tail rest) [.cells ts] (.ptr 0 off::m0.map DV.strip) [.cells (ds.map DV.strip1)]:=by
  refine⟨rtl_cons (by simp only[RT]; exact⟨rfl,trivial⟩) p2,fun k l hk => ?_,fun k e s hk => ?_,fun k k' hk => ?_,fun i j k' hi hj => ?_,fun k kt l hk=>by cases k<;>simp at hk⟩
  ·cases k with
   | zero =>
    cases hk
    exact⟨0,_,rfl,rfl,c2⟩
   | succ k=>simp at hk
  ·cases k<;>simp at hk
  ·by_cases h0:k=0
   ·subst h0; exact⟨_,rfl,fun e=>by cases e⟩
   ·simp only[oneId,h0,if_false] at hk; cases hk
  ·by_cases hi0:i=0<;>by_cases hj0:j=0
   ·rw[hi0,hj0]
   ·simp only[oneId,hj0,if_false] at hj; cases hj
   ·simp only[oneId,hi0,if_false] at hi; cases hi
   ·simp only[oneId,hi0,if_false] at hi; cases hi
 obtain⟨d,S1,ι1,v,ts',k',ds',n1,n2,n3,n4,n5,n6,n7,n8,n9,n10⟩:=hs _ _ _ hc
 simp only[oneId,if_true,Option.some.injEq] at n5
 subst n5
 obtain⟨q1,q2⟩:=hq _ _ n10
 obtain⟨r1,r2⟩:=flatR_strip (ι':=ι) (S':=S.set id' (.cells (ds'.map DV.strip1))) q1 n2
 obtain⟨r3,r4⟩:=flat1_stripL (ι':=ι) (S':=S.set id' (.cells (ds'.map DV.strip1))) q2 n7
 have hcons:∃ T,S1 = .cells ds'::T:=by
  cases S1 with
  | nil=>simp at n6
  | cons a T=>simp only[List.getElem?_cons_zero,Option.some.injEq] at n6; exact⟨T,by rw[n6]⟩
 obtain⟨T,rfl⟩:=hcons
 have hid:id'<S.length:=(List.getElem?_eq_some_iff.1 m2).1
 have hkeep:∀ k0,k0≠id'→(S.set id' (.cells (ds'.map DV.strip1)))[k0]? = S[k0]? := fun k0 h=>by rw[List.getElem?_set,if_neg fun e=>h e.symm]
 have hkp:∀ k,k≠kp→∀ k0,ι k=some k0→k0≠id':=fun k hk k0 h0 e=>hk (hR.inj _ _ _ (e▸h0) k6)
 have K:Keeps ι S ι (S.set id' (.cells (ds'.map DV.strip1))) fun _=>False:=fun k k0 _ hk=>⟨hk,fun e s n hs=>by
  by_cases hkk:k0=id'
  ·subst hkk
   rw[m2] at hs
   cases hs
  ·rw[hkeep k0 hkk]; exact hs⟩
 have hnp:((fs'++xs'++cs').map DV.strip).all DV.pure=false:=by rw[hm0]; rfl
 have ho:onlyD call g (fs'++xs'++cs') S=some (id',d.strip,ds'.map DV.strip1):=by
  rw[hm0]
  simp only[onlyD,m2,p1,c1,Bool.and_self,if_true,n1,r1,r3]
 refine⟨d.strip,S.set id' (.cells (ds'.map DV.strip1)),ι,w,v,te,tS.set kp (.cells ts'),⟨some [id'],true⟩,⟨some [kp],true⟩,fun hd=>(by cases hd),fun _ => ?_,⟨fun e=>e,fun l hl => ?_⟩,fun l m hl hm j hj => ?_,?_,r2,hw,fun _ _ _=>rfl,⟨fun k0 hl hno=>hkeep k0 fun e=>hno _ (e▸k6),fun k k0 hk => .inl ⟨k,hk⟩,fun _ _=>rfl⟩,fun k hk => ?_,⟨by simp,fun j hj hnone => ?_⟩,ts',n10,rfl,rfl,rfl⟩
 ·simp only[stepDr,hop,k1,k2,hnp,Bool.false_eq_true,if_false,ho]
 ·cases hl
  exact⟨[id'],rfl,fun j hj=>⟨kp,by simp,by simp only[List.mem_singleton] at hj; rw[hj]; exact hw _ _ k6⟩⟩
 ·cases hm
  simp only[List.mem_singleton] at hj
  exact .inr ⟨kp,hj▸k6⟩
 ·refine⟨rtl_mono K _ _ hR.env,fun k l hk => ?_,fun k e s hk t ht => ?_,fun k k0 hk => ?_,hR.inj,fun k kt l hk t ht=>by
   rw[List.getElem?_set] at hk
   split at hk
   ·split at hk<;>cases hk
   ·rename_i e1
    rw[hkeep t (hkp k (fun e=>e1 e.symm) t ht)]; exact hR.mp k kt l hk t ht⟩
  ·rw[List.getElem?_set] at hk
   split at hk
   ·rename_i e1
    subst e1
    split at hk
    ·cases hk
     exact⟨id',_,k6,by rw[List.getElem?_set,if_pos rfl,if_pos hid],r4⟩
    ·cases hk
   ·rename_i e1
    obtain⟨k0,ds0,q1,q2,q3⟩:=hR.cells k l hk
    exact⟨k0,ds0,q1,by rw[hkeep k0 (hkp k (Ne.symm e1) k0 q1)]; exact q2,rtl_mono K _ _ q3⟩
  ·rw[List.getElem?_set] at hk
   split at hk
   ·split at hk<;>cases hk
   ·obtain⟨n,q1⟩:=hR.own k e s hk t ht
    exact⟨n,(K k t (fun e=>e) ht).2 _ _ _ q1⟩
  ·rw[List.getElem?_set]
   split
   ·rename_i e1
    subst e1
    exact⟨_,if_pos (List.getElem?_eq_some_iff.1 hts).1,fun e=>by cases e⟩
   ·exact hR.dom k k0 hk
 ·rw[List.getElem?_set]
  split
  ·rename_i e1
   subst e1
   exact⟨_,if_pos (List.getElem?_eq_some_iff.1 hts).1⟩
  ·exact hB k hk
 ·rw[hkeep j]
  ·exact hnone
  ·intro e
   rw[e,m2] at hnone
   cases hnone
end Go.Tv
end
