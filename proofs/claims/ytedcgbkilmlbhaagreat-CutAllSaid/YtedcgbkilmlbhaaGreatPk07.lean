import Derived.Test.YtedcgbkilmlbhaaGreatPk06
section
namespace Go.Tv
open Go Go.Di Go.Proofs
variable {P:Program} {ty:Tys} {tt:TypeId→Option TT} {T:Tbl} {ι ι' w:Ids} {S S':Store} {te te1:List TV} {env:List DV} {tS tS1:List TB} {iso:IsoF} {call:CallF} {yf:YldF} {o:Oper} {nid nT:Nat} {B:List Nat} {r:TR} {ops:Array Oper} {fn:FuncId} {rnd:Bool} {fs:List Foot}
def LA.St:LA→Type
 | .ex α k=>(x:α)×(k x).St
 | .st _=>Unit
 | .un _=>Empty
 | .dep _=>Empty
def LA.bd:(la:LA)→la.St→Bd
 | .ex _ k,⟨x,s⟩=>(k x).bd s
 | .st b,_=>b
theorem la_some {K:Bd→Prop}:∀ {la:LA},la.some K→∃ s:la.St,K (la.bd s)
 | .ex _ k,⟨x,h⟩=>by
  obtain⟨s,h1⟩:=la_some (la:=k x) h
  exact⟨⟨x,s⟩,h1⟩
 | .st b,h=>⟨(),h⟩
 | .un _,h=>h.elim
 | .dep _,h=>h.elim
theorem la_at {K:Bd→Prop}:∀ {la:LA},la.all K→∀ s:la.St,K (la.bd s)
 | .ex _ _,h,⟨x,s⟩=>la_at (h x) s
 | .st _,h,_=>h
theorem entry_ok {b:Bd} {keep:Nat} {K:Prop} (h:entryK B b keep te tS K):Fits B (headE b.sl keep 0 te) (headS b tS) te tS∧conjE b.good∧K:=by
 obtain⟨h0,h⟩:=vcIf_no h
 simp only[Bool.and_eq_true] at h0
 obtain⟨l1,e1,k1,h⟩:=ask_elim h
 obtain⟨l2,e2,k2,h⟩:=ask_elim h
 obtain⟨h3,h4⟩:=conj_elim h
 exact⟨⟨headP_ok e1 k1,headBP_ok e2 k2,h0.1,fun k hk=>List.all_eq_true.1 h0.2 k hk⟩,h3,h4⟩
theorem back_ok {b:Bd} {K:Prop} (h:backK B te1 tS1 b te tS K):Fits B te1 tS1 te tS∧conjE b.good∧K:=by
 obtain⟨h0,h⟩:=vcIf_no h
 simp only[Bool.and_eq_true] at h0
 obtain⟨l1,e1,k1,h⟩:=ask_elim h
 obtain⟨l2,e2,k2,h⟩:=ask_elim h
 obtain⟨h3,h4⟩:=conj_elim h
 exact⟨⟨leTl_ok e1 k1,leBl_ok e2 k2,h0.1,fun k hk=>List.all_eq_true.1 h0.2 k hk⟩,h3,h4⟩
theorem un_ok {c:Code} {Q:DX→List TV→List TB→Prop} {f:List TV→List TB→(List TV→List TB→Prop)→Prop} (hf:∀ te tS K',f te tS K'→WT P ty iso call yf B LL fn rnd c te tS fun e te tS=>match e with | .normal=>K' te tS | e=>Q e te tS) :
  ∀ (n:Nat) (te:List TV) (tS:List TB),unK f n te tS→WI P ty iso call yf B LL fn rnd n c te tS Q
 | 0,_,_,h=>h.elim
 | n+1,te,tS,h=>wi_step ((hf te tS _ h).mono fun e te tS hq=>by
   cases e with
   | normal=>exact un_ok hf n te tS hq
   | exit id=>exact hq
   | ret=>exact hq)
theorem setOp_ok {x:Operand} {v:Bool} {K:List TV→Prop} (hx:evT te x=some (.val (.bool v))) (h:setOp x te v K):K te:=by
 cases x with
 | tmp t =>
  simp only[evT,Option.some.injEq] at hx
  have:=setK_ok te t _ (h:setK te t _ K)
  rwa [set_same] at this
  rw[List.getD_eq_getElem?_getD] at hx
  cases e:te[t]? with
  | none=>rw[e] at hx; cases hx
  | some a=>rw[e] at hx; exact congrArg some hx
 | _=>exact h
variable {inl:Inl}
theorem wt_region (hT:TblOK T iso call) (hI:InlOK call T inl) {id:Nat} {draw:Bool} {J:List (Nat×LA)} {i lv:Nat} {Q:DX→List TV→List TB→Prop} (h:vcC P ty tt T inl B J (.region id ops draw) i lv te tS Q):WT P ty iso call yf B LL fn rnd (.region id ops draw) te tS Q:=by
 simp only[vcC] at h
 split at h
 ·split at h
  ·rename_i hn
   obtain⟨hd,h⟩:=vcIf_no h
   refine wt_drawn hd hn ?_
   exact ops_ok (md:=2) (n0:=tS.length) (tS0:=tS) (Q:=fun te tS=>Q .normal te (trimT tS)) hT hI (by omega) (fun te tS fs hk=>by
    obtain⟨hm,hk⟩:=vcIf_no hk
    exact wd_end (Nat.le_refl _) hm (forceB_ok _ (K:=fun tS=>Q .normal te tS) hk)) ops.toList 0 te _ [] rfl (forceB_ok _ (K:=fun tS0=>vcOps P ty tt T inl 2 tS.length ops ops.toList 0 te tS0 [] fun te tS fs=>vcIf (metOk (Region.before ops) fs) (forceB (trimT tS) fun tS=>Q .normal te tS) False) h)
  ·rename_i hn
   obtain⟨hd,h⟩:=vcIf_no h
   refine wt_quiet hd hn ?_
   exact ops_ok (B:=B) (md:=1) (n0:=0) (tS0:=tS) (Q:=fun te tS=>Q .normal te tS) hT hI (by omega) (fun te tS fs hk _=>wq_end (Nat.le_refl _) hk) ops.toList 0 te _ [] rfl h rfl
 ·refine wt_plain ?_
  exact ops_ok (md:=0) (n0:=0) (tS0:=tS) (Q:=fun te tS=>Q .normal te (trimT tS)) hT hI (by omega) (fun te tS fs hk=>wl_end (Nat.le_refl _) (forceB_ok _ (K:=fun tS=>Q .normal te tS) hk)) ops.toList 0 te _ [] rfl h
theorem quietR_ok {c:Code} (h:quietR P c=some ops):loudR P ops=false∧∃ id,c = .region id ops true:=by
 unfold quietR at h
 split at h
 ·split at h
  ·cases h
  ·rename_i hl; cases h; exact⟨Bool.eq_false_iff.2 hl,_,rfl⟩
 ·cases h
theorem putD_other {env:List DV} {dst:Option Tmp} {v:DV} {i:Nat} (h:dst≠some i):(putD env dst v)[i]? = env[i]? := by
 cases dst with
 | none=>rfl
 | some d =>
  simp only[putD]
  rw[List.getElem?_set,if_neg (fun e=>h (by rw[e]))]
theorem runQ_keep {i:Nat}:∀ {l:List Oper} {env env':List DV},runQ P ty iso call yf ops S l env=some env'→(∀ o∈l,o.dst≠some i)→env'[i]? = env[i]?
 | [],env,env',h,_=>by cases h; rfl
 | o::l,env,env',h,hd=>by
  simp only[runQ] at h
  split at h
  ·split at h
   ·rw[runQ_keep h fun o' ho'=>hd o' (List.mem_cons_of_mem _ ho'),putD_other (hd o (List.mem_cons_self ..))]
   ·cases h
  ·rw[runQ_keep h fun o' ho'=>hd o' (List.mem_cons_of_mem _ ho'),putD_other (hd o (List.mem_cons_self ..))]
theorem le_one {u v:TV} {d:DV} (h:LeV u v) (hd:RT ι S v d):RT ι S u d:=by
 obtain⟨_,_,e,h1,-⟩:=rtl_cases (leL_ok (h [] [] .nil) (rtl_one hd))
 cases e
 exact h1
theorem head_quiet {sl:List (Nat×TV)} {keep:Nat}:∀ {i:Nat} {te te':List TV} {env env':List DV} {l:List Prop},RTl ι S te env→RTl ι S te' env'→te'.length=te.length→headP sl i te'=some l→conjE l→(∀ j,keep.testBit (i+j)=true→env'[j]? = env[j]?)→RTl ι S (headE sl keep i te) env'
 | _,[],[],_,_,_,_,h2,_,_,_,_=>by rw[rtl_nil' h2]; exact rtl_nil
 | i,v::te,v'::te',env,env',l,h1,h2,hn,hp,hc,hk=>by
  obtain⟨d,m,rfl,a1,a2⟩:=rtl_cases h1
  obtain⟨d',m',rfl,b1,b2⟩:=rtl_cases h2
  have hn':te'.length=te.length:=by simpa using hn
  have hk':∀ j,keep.testBit (i+1+j)=true→m'[j]? = m[j]? := fun j hj=>by
   have:=hk (j+1) (by rw[← Nat.add_assoc,Nat.add_right_comm]; exact hj)
   simpa using this
  simp only[headP] at hp
  simp only[headE]
  split at hp
  ·rename_i p hpp
   split at hp
   ·rename_i x y e1 e2
    cases hp
    obtain⟨k1,k2⟩:=conjE_app hc
    exact rtl_cons (le_one (leT_ok e1 k1) b1) (head_quiet a2 b2 hn' e2 k2 hk')
   ·cases hp
  ·refine rtl_cons ?_ (head_quiet a2 b2 hn' hp hc hk')
   split
   ·rename_i hb
    have:=hk 0 hb
    simp only[List.getElem?_cons_zero,Option.some.injEq] at this
    rw[this]; exact a1
   ·simp only[RT]
 | _,[],_::_,_,_,_,_,_,hn,_,_,_=>by simp at hn
 | _,_::_,[],_,_,_,_,_,hn,_,_,_=>by simp at hn
theorem runQ_len:∀ {l:List Oper} {env env':List DV},runQ P ty iso call yf ops S l env=some env'→env'.length=env.length
 | [],env,env',h=>by cases h; rfl
 | o::l,env,env',h=>by
  have hp:∀ (dst:Option Tmp) (v:DV),(putD env dst v).length=env.length:=fun dst v=>by cases dst<;>simp[putD]
  simp only[runQ] at h
  split at h
  ·split at h
   ·rw[runQ_len h,hp]
   ·cases h
  ·rw[runQ_len h,hp]
theorem wt_qjoin {id:Nat} {b:Code} {Q:DX→List TV→List TB→Prop} {la:LA} {keep:Nat} (hd:drawOk ops (Region.before ops)=true) (hl:loudR P ops=false) (hk:keepOk keep ops=true)
  (h1:WQ P ty iso call yf ops tS 0 te fun te'=>la.some fun bd=>ask (headP bd.sl 0 te') (conj bd.good True))
  (h2:∀ s:la.St,conjE (la.bd s).good→WT P ty iso call yf B LL fn rnd b (headE (la.bd s).sl keep 0 te) tS Q):WT P ty iso call yf B LL fn rnd (.seq (.region id ops true) b) te tS Q:=by
 intro ι env S hR hB
 obtain⟨env',te',k1,k2,k3⟩:=h1 ι env S hR
 rw[List.drop_zero] at k1
 obtain⟨s,hs⟩:=la_some k3
 obtain⟨l,e1,e2,e3⟩:=ask_elim hs
 obtain⟨e3,-⟩:=conj_elim e3
 have hR1:RelT ι (headE (la.bd s).sl keep 0 te) tS env' S:=by
  refine⟨head_quiet hR.env k2.env ?_ e1 e2 fun j hj => ?_,k2.cells,k2.own,k2.dom,k2.inj⟩
  ·rw[← rtl_len k2.env,← rtl_len hR.env,runQ_len k1]
  ·refine runQ_keep k1 fun o ho e => ?_
   have:=List.all_eq_true.1 hk o ho
   rw[Nat.zero_add] at hj
   rw[e] at this
   simp only[hj] at this
   cases this
 obtain⟨e,env'',S'',ι'',te'',tS'',m1,m2,m3,m4,m5,m6⟩:=h2 s e3 ι env' S hR1 hB
 refine⟨e,env'',S'',ι'',te'',tS'',?_,m2,m3,m4,m5,m6⟩
 have:codeD P ty iso call yf LL fn rnd (.region id ops true) env S=some (.normal,env',S):=by
  simp only[loudR,Bool.or_eq_false_iff] at hl; simp only[codeD,regionD,if_true,hd,hl.2,Bool.not_true,Bool.false_eq_true,if_false,k1,Option.map_some]
 rw[codeD,this]
 exact m1
theorem vc_ok (hT:TblOK T iso call) (hI:InlOK call T inl) {J:List (Nat×LA)}:∀ (c:Code) (i lv:Nat) (te:List TV) (tS:List TB) (Q:DX→List TV→List TB→Prop),vcC P ty tt T inl B J c i lv te tS Q→WT P ty iso call yf B LL fn rnd c te tS Q
 | .skip,_,_,_,_,_,h=>wt_skip h
 | .label _,_,_,_,_,_,h=>wt_label h
 | .exit _,_,_,_,_,_,h=>wt_exit h
 | .ret,_,_,_,_,_,h=>wt_ret h
 | .scope c,i,lv,te,tS,Q,h=>wt_scope (vc_ok hT hI c i lv te tS Q h)
 | .block id c,i,lv,te,tS,Q,h=>by
  refine wt_block ((vc_ok hT hI c i lv te tS _ h).mono fun e te tS hq => ?_)
  cases e with
  | normal=>exact hq
  | ret=>exact hq
  | exit id' =>
   dsimp only at hq ⊢
   split<;>simp_all
 | .cond x a b,i,lv,te,tS,Q,h=>by
  simp only[vcC] at h
  split at h
  ·rename_i t hx
   obtain⟨h1,h2⟩:=vcIf_elim h
   refine wt_cond hx (fun e => ?_) (fun e => ?_)
   ·subst e; exact vc_ok hT hI a i lv te tS Q (setOp_ok hx (h1 rfl))
   ·subst e; exact vc_ok hT hI b (i+cnt a) lv te tS Q (setOp_ok hx (h2 rfl))
  ·exact h.elim
 | .seq a b,i,lv,te,tS,Q,h=>by
  simp only[vcC] at h
  split at h
  ·rename_i la _
   split at h
   ·rename_i ops hq
    obtain⟨h1,h2⟩:=h
    obtain⟨hl,id,rfl⟩:=quietR_ok hq
    obtain⟨h0,h1⟩:=vcIf_no h1
    simp only[Bool.and_eq_true] at h0
    refine wt_qjoin (la:=la) h0.1 hl h0.2 ?_ fun s hg=>vc_ok hT hI b _ lv _ _ Q (forceL_ok _ (impl_elim (la_at h2 s) hg))
    exact ops_ok (B:=B) (md:=1) (n0:=0) (tS0:=tS) (Q:=fun te' _=>la.some fun bd=>ask (headP bd.sl 0 te') (conj bd.good True)) hT hI (by omega) (fun te' tS' fs hk _=>wq_end (Nat.le_refl _) hk) ops.toList 0 te _ [] rfl h1 rfl
   obtain⟨h1,h2⟩:=h
   refine wt_join (fun s:la.St=>(headE (la.bd s).sl ((lv ||| uses b) &&& (2 ^ 400-1-(defs a))) 0 te,headS (la.bd s) tS)) (fun s=>conjE (la.bd s).good) ((vc_ok hT hI a (i+1) (lv ||| uses b) te tS _ h1).mono fun e te' tS' hq => ?_) fun s hg=>vc_ok hT hI b (i+1+cnt a) lv _ _ Q (forceB_ok _ (forceL_ok _ (impl_elim (la_at h2 s) hg)))
   cases e with
   | normal =>
    obtain⟨s,hs⟩:=la_some hq
    obtain⟨k1,k2,-⟩:=back_ok hs
    exact⟨s,k1,k2⟩
   | exit id=>exact hq
   | ret=>exact hq
  ·refine wt_seq ((vc_ok hT hI a (i+1) (lv ||| uses b) te tS _ h).mono fun e te tS hq => ?_)
   cases e with
   | normal=>exact vc_ok hT hI b _ _ te tS Q hq
   | exit id=>exact hq
   | ret=>exact hq
 | .loop c,i,lv,te,tS,Q,h=>by
  simp only[vcC] at h
  split at h
  ·refine wt_unroll (by unfold LL; omega) (un_ok (fun te tS K' hf=>(vc_ok hT hI c _ _ te tS _ hf).mono fun e te tS hq => ?_) _ te tS h)
   cases e with
   | normal=>exact hq
   | exit id=>exact hq
   | ret=>exact hq
  ·rename_i la _ _
   obtain⟨h1,h2⟩:=h
   obtain⟨s0,h1⟩:=la_some h1
   obtain⟨k1,k2,k3⟩:=entry_ok h1
   refine wt_loop (fun s:la.St=>(headE (la.bd s).sl ((lv ||| uses c) &&& (2 ^ 400-1-(defs c))) 0 te,headS (la.bd s) tS)) (fun s=>conjE (la.bd s).good) (fun s=>(la.bd s).m) s0 k1 k2 k3 fun s hg=>(vc_ok hT hI c (i+1) (lv ||| uses c) _ _ _ (forceB_ok _ (forceL_ok _ (impl_elim (la_at h2 s) hg)))).mono fun e te' tS' hq => ?_
   cases e with
   | normal =>
    obtain⟨s',hs⟩:=la_some hq
    obtain⟨k1,k2,k3⟩:=back_ok hs
    exact⟨s',k1,k2,k3⟩
   | exit id=>exact hq
   | ret=>exact hq
  ·exact h.elim
 | .region id ops draw,i,lv,te,tS,Q,h=>wt_region hT hI h
 | .rangeFunc ..,_,_,_,_,_,h=>(by simp only[vcC] at h)
 | .goto _,_,_,_,_,_,h=>(by simp only[vcC] at h)
 | .refuse _,_,_,_,_,_,h=>(by simp only[vcC] at h)
theorem sp_mono {K K':TV→List TV→List Prop→Prop} (hK:∀ v cs f,K v cs f→K' v cs f):∀ {s:SpT},s.some K→s.some K'
 | .ex _ k,⟨x,h⟩=>⟨x,sp_mono (s:=k x) hK h⟩
 | .res _ _ _,h=>hK _ _ _ h
theorem end_f {F:List TV→List TB→Prop} {E:DX→List TV→List TB→Prop} (h1:∀ te tS,F te tS→E .normal te tS∧E .ret te tS):∀ {e:DX} {te:List TV} {tS:List TB},endF F e te tS→E e te tS
 | .normal,_,_,h=>(h1 _ _ h).1
 | .ret,_,_,h=>(h1 _ _ h).2
 | .exit _,_,_,h=>h.elim
theorem fin_i {rs:List ResultVar} {rts:List (Option TT)} {s:SpT} (h:finI ty rs rts s te tS):EndI ty rs rts (fun v=>s.holdsV v) .normal te tS∧EndI ty rs rts (fun v=>s.holdsV v) .ret te tS:=by
 unfold finI at h
 split at h
 ·rename_i vs hv
  obtain⟨h0,h⟩:=vcIf_no h
  simp only[Bool.and_eq_true,List.isEmpty_iff] at h0
  have:∃ vs,resT ty te tS rs=some vs∧vs.all pureB=true∧refs (oneV (normL rts vs))=[]∧s.holdsV (oneV (normL rts vs)):=by
   refine⟨vs,hv,h0.1,h0.2,sp_mono (fun v cs f hk => ?_) h⟩
   obtain⟨l,h1,h2,h3⟩:=ask_elim hk
   exact⟨eqT_ok h1 h2,h3⟩
  exact⟨⟨trivial,this⟩,trivial,this⟩
 ·exact h.elim
theorem fin_c {rs:List ResultVar} {rts cts:List (Option TT)} {s:SpT} (h:finC ty rs rts cts s te tS):EndC ty rs rts cts (fun v cs=>s.holds v cs) .normal te tS∧EndC ty rs rts cts (fun v cs=>s.holds v cs) .ret te tS:=by
 unfold finC at h
 split at h
 ·rename_i vs ts l hv
  obtain⟨h0,h⟩:=vcIf_no h
  simp only[Bool.and_eq_true,List.isEmpty_iff] at h0
  have:s.holds (oneV (normL rts vs)) (normL cts ts):=by
   refine sp_mono (fun v cs f hk => ?_) h
   obtain⟨l,h1,h2,hk⟩:=ask_elim hk
   obtain⟨l',h3,h4,h5⟩:=ask_elim hk
   exact⟨eqT_ok h1 h2,eqL_ok h3 h4,h5⟩
  exact⟨⟨trivial,vs,ts,hv,h0.1.1,h0.1.2,rfl,h0.2.1,h0.2.2,this⟩,trivial,vs,ts,hv,h0.1.1,h0.1.2,rfl,h0.2.1,h0.2.2,this⟩
 ·exact h.elim
theorem fin_n {rs:List ResultVar} {cts:List (Option TT)} {s:SpT} (h:finN ty rs cts s te tS):EndN ty rs cts (fun cs=>s.holdsN cs) .normal te tS∧EndN ty rs cts (fun cs=>s.holdsN cs) .ret te tS:=by
 unfold finN at h
 split at h
 ·rename_i ts l hv
  obtain⟨h0,h⟩:=vcIf_no h
  simp only[Bool.and_eq_true,List.isEmpty_iff] at h0
  have:s.holdsN (normL cts ts):=by
   refine sp_mono (fun v cs f hk => ?_) h
   obtain⟨l',h3,h4,h5⟩:=ask_elim hk
   exact⟨eqL_ok h3 h4,h5⟩
  exact⟨⟨trivial,ts,hv,rfl,h0.1,h0.2,this⟩,trivial,ts,hv,rfl,h0.1,h0.2,this⟩
 ·exact h.elim
theorem one_rt:∀ {vs:List TV} {ds:List DV},RTl ι S vs ds→RT ι S (oneV vs) (oneOf ds)
 | [],ds,h=>by rw[rtl_nil' h]; simp only[oneV,oneOf,RT]; exact rtl_nil
 | [v],ds,h=>by
  obtain⟨d,m',rfl,h1,h2⟩:=rtl_cases h
  rw[rtl_nil' h2]; exact h1
 | v::u::l,ds,h=>by
  obtain⟨d,m',rfl,h1,h2⟩:=rtl_cases h
  obtain⟨d',m'',rfl,h3,h4⟩:=rtl_cases h2
  simp only[oneV,oneOf,RT]
  exact rtl_cons h1 (rtl_cons h3 h4)
def XOK (P:Program) (T:Tbl):Prop:=∀ g fn j,T.X g=some (fn,j)→P.funcs[g]? = some fn∧fn.body.isSome=true
def Lev (P:Program) (ty:Tys) (T:Tbl):Nat→IsoF→CallF→Prop
 | 0,iso,call=>TblOK T iso call
 | d+1,iso,call=>TblOK T iso call∧∃ iso' call' yf',(∀ g fn,P.funcs[g]? = some fn→∀ a S,call g a S=bodyD P ty iso' call' yf' LL g fn a S)∧Lev P ty T d iso' call'
theorem lev_tbl {d:Nat} (h:Lev P ty T d iso call):TblOK T iso call:=by
 cases d with
 | zero=>exact h
 | succ d=>exact h.1
theorem inl_ok (hX:XOK P T):∀ (d:Nat) {iso:IsoF} {call:CallF},Lev P ty T d iso call→InlOK call T (inlD P ty tt T d)
 | 0,_,_,_=>fun _ _ _ _ _ _ _ h=>h.elim
 | d+1,iso,call,hL=>by
  obtain⟨-,iso',call',yf',hb,hL'⟩:=hL
  intro g fn j A tS K hx hi ι dargs S hR
  obtain⟨hf,hs⟩:=hX g fn j hx
  have hw:=vc_ok (fn:=g) (rnd:=false) (yf:=yf') (lev_tbl hL') (inl_ok hX d hL') _ _ _ _ _ _ (forceL_ok _ hi)
  have hlen:=rtl_len hR.env
  have hR':RelT ι (padT fn.ntmps A) tS (dargs++List.replicate (fn.ntmps-dargs.length) dundef) S :=
   ⟨rtl_append hR.env (by rw[hlen]; exact rtl_rep _ _),hR.cells,hR.own,hR.dom,hR.inj⟩
  obtain⟨e,env',S',ι',te',tS',h1,h2,h3,h4,h5,h6⟩:=hw ι _ S hR' ix_bok
  have key:finX ty fn.results.toList K te' tS'→(e = .normal∨e = .ret)→∃ d S' ι' v tS',call g dargs S=some (d,S')∧RelT ι' [v] tS' [d] S'∧BOK (cellsIx 0 tS) tS'∧Fr (cellsIx 0 tS) ι S ι' S'∧Nn S.length S S'∧K v tS':=by
   intro hk he
   unfold finX at hk
   split at hk
   ·rename_i vs hv
    obtain⟨ds,k1,k2⟩:=resT_ok h2 hv
    refine⟨oneOf ds,S',ι',oneV vs,tS',?_,⟨rtl_one (one_rt k2),h2.cells,h2.own,h2.dom,h2.inj⟩,h3,h4,h5,hk⟩
    rw[hb g fn hf]
    unfold bodyC at h1
    simp only[bodyD]
    cases hc:fn.body with
    | none=>rw[hc] at hs; cases hs
    | some c =>
     rw[hc] at h1
     simp only[Option.getD_some] at h1
     simp only[h1]
     rcases he with rfl | rfl<;>simp only[k1,Option.map_some]
   ·exact hk.elim
  cases e with
  | normal=>exact key h6 (.inl rfl)
  | ret=>exact key h6 (.inr rfl)
  | exit id=>exact h6.elim
def vcI (T:Tbl) (d:Nat) (f:Func) (rts:List (Option TT)) (J:List (Nat×LA)) (a:List TV) (s:SpT):Prop:=forceL (padT f.ntmps a) fun te=>vcC Tp Ty ttb T (inlD Tp Ty ttb T d) [] J (bodyC f) 0 (resMask f.results.toList) te [] (endF (finI Ty f.results.toList rts s))
def vcCC (T:Tbl) (d:Nat) (f:Func) (rts cts:List (Option TT)) (J:List (Nat×LA)) (a cs:List TV) (s:SpT):Prop:=forceL (padT f.ntmps a) fun te=>vcC Tp Ty ttb T (inlD Tp Ty ttb T d) [0] J (bodyC f) 0 (resMask f.results.toList) te [.cells cs] (endF (finC Ty f.results.toList rts cts s))
def vcN (T:Tbl) (d:Nat) (f:Func) (cts:List (Option TT)) (J:List (Nat×LA)) (a:List TV) (s:SpT):Prop:=forceL (padT f.ntmps a) fun te=>vcC Tp Ty ttb T (inlD Tp Ty ttb T d) [] J (bodyC f) 0 (resMask f.results.toList) te [] (endF (finN Ty f.results.toList cts s))
def TOK (tab:IsoF) (k:Nat) (T:Tbl):Prop:=XOK Tp T∧∀ n,TblOK T (isoT tab (n+k)) (callT' tab (n+k))
def Tbl.addI (T:Tbl) (f:FuncId) (S:List TV→Sp):Tbl:={ T with I:=fun g a=>if g=f then S a else T.I g a }
def Tbl.addC (T:Tbl) (f:FuncId) (S:List TV→List TV→Sp):Tbl:={ T with C:=fun g a c=>if g=f then S a c else T.C g a c }
def Tbl.addN (T:Tbl) (f:FuncId) (S:List TV→Sp):Tbl:={ T with N:=fun g a=>if g=f then S a else T.N g a }
def Tbl.addX (T:Tbl) (f:FuncId) (fn:Func) (j:List (Nat×LA)):Tbl:={ T with X:=fun g=>if g=f then some (fn,j) else T.X g }
variable {tab:IsoF} {k:Nat}
theorem tok_up (h:TOK tab k T):TOK tab (k+1) T:=⟨h.1,fun n=>by have:=h.2 (n+1); rwa [Nat.add_right_comm,Nat.add_assoc] at this⟩
theorem lev_tok (h:TOK tab k T):∀ (d n:Nat),Lev Tp Ty T d (isoT tab (n+(k+d))) (callT' tab (n+(k+d)))
 | 0,n=>h.2 n
 | d+1,n=>by
  refine⟨?_,isoT tab (n+(k+d)),callT' tab (n+(k+d)),yfT tab (n+(k+d)),fun g fn hf a S => ?_,lev_tok h d n⟩
  ·have:=h.2 (n+(d+1)); rwa [Nat.add_assoc,Nat.add_comm (d+1) k] at this
  ·rw[show n+(k+(d+1))=(n+(k+d))+1 by omega]
   simp only[callN,deepP,hf]
   rfl
theorem tok_i {f:FuncId} {S:List TV→Sp} (hT:TOK tab k T) (h:∀ n a p s,S a=some (p,s)→conjE p→ISpec (isoT tab (n+k)) f a fun v=>s.holdsV v):TOK tab k (T.addI f S):=⟨hT.1,fun n=>⟨fun g a p s hs hp=>by
 simp only[Tbl.addI] at hs
 split at hs
 ·rename_i e; subst e; exact h n a p s hs hp
 ·exact(hT.2 n).I g a p s hs hp,(hT.2 n).C,(hT.2 n).N⟩⟩
theorem tok_c {f:FuncId} {S:List TV→List TV→Sp} (hT:TOK tab k T) (h:∀ n a cs p s,S a cs=some (p,s)→conjE p→CSpec (callT' tab (n+k)) f a cs fun v cs=>s.holds v cs):TOK tab k (T.addC f S):=⟨hT.1,fun n=>⟨(hT.2 n).I,fun g a cs p s hs hp=>by
 simp only[Tbl.addC] at hs
 split at hs
 ·rename_i e; subst e; exact h n a cs p s hs hp
 ·exact(hT.2 n).C g a cs p s hs hp,(hT.2 n).N⟩⟩
theorem tok_n {f:FuncId} {S:List TV→Sp} (hT:TOK tab k T) (h:∀ n a p s,S a=some (p,s)→conjE p→NSpec (isoT tab (n+k)) (callT' tab (n+k)) f a fun cs=>s.holdsN cs):TOK tab k (T.addN f S):=⟨hT.1,fun n=>⟨(hT.2 n).I,(hT.2 n).C,fun g a p s hs hp=>by
 simp only[Tbl.addN] at hs
 split at hs
 ·rename_i e; subst e; exact h n a p s hs hp
 ·exact(hT.2 n).N g a p s hs hp⟩⟩
def T0:Tbl where
 I:=fun g a=>match g,a with
  | 12,[]=>some ([],.res (bval true) [] [])
  | _,_=>none
 C:=fun _ _ _=>none
 N:=fun _ _=>none
theorem tok_0 (tk:TabK tab):TOK tab 0 T0:=by
 refine⟨fun _ _ _ h=>(by cases h),fun n=>⟨fun g a p s hs _ => ?_,fun _ _ _ _ _ hs=>(by cases hs),fun _ _ _ _ hs=>(by cases hs)⟩⟩
 simp only[T0] at hs
 split at hs
 ·cases hs
  intro dargs hd
  rw[rtl_nil' hd]
  refine⟨.val (.bool true),bval true,?_,rfl,by simp only[RT],rfl,rfl,trivial⟩
  simp only[isoN,isoOf,tk.fit,DV.pure,DV.pure2,if_true]
 ·cases hs
end Go.Tv
end
section
namespace Go.Tv
open Go Go.Di Go.Proofs
abbrev Dn := Option (List Prop × SpT × List (Nat × LA))
def dS (d : Dn) : Sp := d.map fun x => (x.1, x.2.1)
def dJ (d : Dn) : List (Nat × LA) := match d with
 | some x => x.2.2
 | none => []
def VI (T : Tbl) (f : Func) (rts : List (Option TT)) (D : List TV → Dn) (d : Nat := 0) : Prop := ∀ a p s j, D a = some (p, s, j) → conjE p → vcI T d f rts j a s
def VC (T : Tbl) (f : Func) (rts cts : List (Option TT)) (D : List TV → List TV → Dn) (d : Nat := 0) : Prop := ∀ a cs p s j, D a cs = some (p, s, j) → conjE p → vcCC T d f rts cts j a cs s
def VN (T : Tbl) (f : Func) (cts : List (Option TT)) (D : List TV → Dn) (d : Nat := 0) : Prop := ∀ a p s j, D a = some (p, s, j) → conjE p → vcN T d f cts j a s
def dV (d : Dn) (K : SpT → List (Nat × LA) → Prop) : Prop :=
 match d with
 | some (p, s, j) => conjE p → K s j
 | none => True
structure Hd (p : Prop) : Prop where
 h : p
theorem vcq {A B : Prop} (h : A = B) (a : A) : Hd B := ⟨h ▸ a⟩
theorem vi_of {T : Tbl} {f : Func} {rts : List (Option TT)} {D : List TV → Dn} {d : Nat} (h : ∀ a, dV (D a) fun s j => Hd (vcI T d f rts j a s)) : VI T f rts D d := fun a p s j hd hp => by
 have := h a
 rw [hd] at this
 exact (this hp).h
theorem d_some {d : Dn} {p : List Prop} {s : SpT} (h : dS d = some (p, s)) : d = some (p, s, dJ d) := by
 cases d with
 | none => cases h
 | some x => cases h; rfl
variable {tab : IsoF} {k : Nat} {T : Tbl}
theorem body_some {fn : Func} (hb : fn.body.isSome = true) : fn.body = some (bodyC fn) := by unfold bodyC; revert hb; cases fn.body <;> simp
theorem mkI (tk : TabK tab) (hT : TOK tab k T) {f : FuncId} {fn : Func} {rts : List (Option TT)} {D : List TV → Dn} {d : Nat} (hne : f ≠ 60 ∧ f ≠ 133 ∧ f ≠ 12 ∧ f ≠ 43 ∧ f ≠ 52) (hf : Tp.funcs[f]? = some fn) (hb : fn.body.isSome = true) (h : VI T fn rts D d) {T' : Tbl} (hT' : TOK tab (k + d + 1) T') : TOK tab (k + d + 1) (T'.addI f fun a => dS (D a)) :=
 tok_i hT' fun n a p s hs hp => ispec_of (n := n + (k + d)) hf (body_some hb) (fun _ => tk.other _ _ hne.1 hne.2.1 hne.2.2.1 hne.2.2.2.1 hne.2.2.2.2) ((vc_ok (lev_tbl (lev_tok hT d n)) (inl_ok hT.1 d (lev_tok hT d n)) _ _ _ _ _ _ (forceL_ok _ (h a p s _ (d_some hs) hp))).mono fun _ _ _ hq => end_f (fun _ _ => fin_i) hq)
theorem mkC (hT : TOK tab k T) {f : FuncId} {fn : Func} {rts cts : List (Option TT)} {D : List TV → List TV → Dn} {d : Nat} (hf : Tp.funcs[f]? = some fn) (hb : fn.body.isSome = true) (h : VC T fn rts cts D d) {T' : Tbl} (hT' : TOK tab (k + d + 1) T') : TOK tab (k + d + 1) (T'.addC f fun a c => dS (D a c)) :=
 tok_c hT' fun n a cs p s hs hp => cspec_of (n := n + (k + d)) hf (body_some hb) ((vc_ok (lev_tbl (lev_tok hT d n)) (inl_ok hT.1 d (lev_tok hT d n)) _ _ _ _ _ _ (forceL_ok _ (h a cs p s _ (d_some hs) hp))).mono fun _ _ _ hq => end_f (fun _ _ => fin_c) hq)
theorem mkN (tk : TabK tab) (hT : TOK tab k T) {f : FuncId} {fn : Func} {cts : List (Option TT)} {D : List TV → Dn} {d : Nat} (hne : f ≠ 60 ∧ f ≠ 133 ∧ f ≠ 12 ∧ f ≠ 43 ∧ f ≠ 52) (hf : Tp.funcs[f]? = some fn) (hb : fn.body.isSome = true) (h : VN T fn cts D d) {T' : Tbl} (hT' : TOK tab (k + d + 1) T') : TOK tab (k + d + 1) (T'.addN f fun a => dS (D a)) :=
 tok_n hT' fun n a p s hs hp => nspec_of (n := n + (k + d)) hf (body_some hb) (fun _ => tk.other _ _ hne.1 hne.2.1 hne.2.2.1 hne.2.2.2.1 hne.2.2.2.2) ((vc_ok (lev_tbl (lev_tok hT d n)) (inl_ok hT.1 d (lev_tok hT d n)) _ _ _ _ _ _ (forceL_ok _ (h a p s _ (d_some hs) hp))).mono fun _ _ _ hq => end_f (fun _ _ => fin_n) hq)
def nilE (α : Type) : Prop := ([] : List α) = []
theorem nil_e {α : Type} : nilE α = True := by simp [nilE]
theorem vcp {A B : Prop} (h : A = B) (a : A) : B := h ▸ a
theorem vc_iff {b : Bool} {A B : Prop} : vcIf b A B ↔ (b = true → A) ∧ (b = false → B) := by cases b <;> simp [vcIf]
theorem vc_dec {p : Prop} [Decidable p] {A B : Prop} : vcIf (decide p) A B ↔ (p → A) ∧ (¬p → B) := by rw [vc_iff]; simp
theorem vc_not {b : Bool} {A B : Prop} : vcIf (!b) A B ↔ vcIf b B A := by cases b <;> rfl
theorem vc_beq {a c : Int} {A B : Prop} : vcIf (a == c) A B ↔ (a = c → A) ∧ (¬a = c → B) := by rw [vc_iff]; simp
theorem vc_bne {a c : Int} {A B : Prop} : vcIf (a != c) A B ↔ (a = c → B) ∧ (¬a = c → A) := by rw [vc_iff]; simp [and_comm]
theorem vc_and {a b : Bool} {A B : Prop} : vcIf (a && b) A B ↔ vcIf a (vcIf b A B) B := by cases a <;> cases b <;> rfl
theorem vc_tt {A B : Prop} : vcIf true A B ↔ A := Iff.rfl
end Go.Tv
end
section
namespace Go.Tv
open Go Go.Di Go.Proofs
set_option maxRecDepth 100000
theorem getD_at {l:List Int} {i:Nat} (h:i<l.length):l.getD i 0=l[i]:=by simp[List.getD_eq_getElem?_getD,h]
theorem take_one {l:List Int} {i:Nat} (h:i<l.length):l.take (i+1)=l.take i++[l.getD i 0]:=by
 rw[getD_at h,List.take_append_getElem]
theorem drop_one {l:List Int} {i:Nat} (h:i<l.length):(l.drop (i+1)).reverse++[l.getD i 0]=(l.drop i).reverse:=by
 rw[getD_at h,List.drop_eq_getElem_cons h,List.reverse_cons]
theorem mem_getD {l:List Int} {i:Nat} (h:i<l.length):l.getD i 0∈l:=by
 rw[getD_at h]; exact List.getElem_mem _
def indexI (l:List Int) (x:Int):Int:=if x∈l then (l.idxOf x:Int) else -1
theorem indexI_at {l:List Int} {x:Int} {i:Nat} (h:i<l.length) (h1:x ∉ l.take i) (h2:l.getD i 0=x):indexI l x=i:=by
 have hm:x∈l:=by rw[← h2]; exact mem_getD h
 have e:l=l.take i++x::l.drop (i+1):=by
  rw[← h2,getD_at h,← List.drop_eq_getElem_cons h,List.take_append_drop]
 rw[indexI,if_pos hm]
 congr 1
 conv=>lhs; rw[e]
 rw[List.idxOf_append,if_neg h1,List.idxOf_cons_self,List.length_take]
 omega
abbrev dice (rest:List Int) (last:Int):List TV:=[.sl I64 rest .no,.val (.int .u64 last)]
theorem wrap_u64' (n:Int):IntKind.u64.wrap n=n % 18446744073709551616:=by simp[IntKind.wrap,IntKind.bits,IntKind.signed]
theorem u64_in (n:Int):0≤IntKind.u64.wrap n∧IntKind.u64.wrap n<18446744073709551616:=by rw[wrap_u64']; omega
theorem fdiv32 (a:Int):a.fdiv 4294967296=a / 4294967296:=Int.fdiv_eq_ediv_of_nonneg _ (by omega)
theorem hi_of {x n:Int} (h:IntKind.u64.wrap n=x):0≤x.fdiv 4294967296∧x.fdiv 4294967296<4294967296:=by
 have:=u64_in n
 rw[fdiv32,← h]; omega
theorem to_in {k m:Int} (hm:m≤1000) (h0:0<m) (hk:0≤k) (hk':k<4294967296):0≤IntKind.i64.wrap ((IntKind.u64.wrap (k*IntKind.u64.wrap (m+1))).fdiv 4294967296)∧(IntKind.i64.wrap ((IntKind.u64.wrap (k*IntKind.u64.wrap (m+1))).fdiv 4294967296)≤m∨IntKind.i64.wrap ((IntKind.u64.wrap (k*IntKind.u64.wrap (m+1))).fdiv 4294967296)=0):=by
 have h1:k*(m+1)≤4294967295*(m+1):=Int.mul_le_mul_of_nonneg_right (by omega) (by omega)
 have h2:0≤k*(m+1):=Int.mul_nonneg hk (by omega)
 rw[wrap_u64' (m+1),Int.emod_eq_of_lt (a:=m+1) (by omega) (by omega),fdiv32,wrap_u64']
 generalize k*(m+1)=p at *
 rw[Int.emod_eq_of_lt (by omega) (by omega),wr_i64 (by omega) (by omega)]
 omega
theorem all_snoc {α:Type} {P:α→Prop} {l:List α} {a:α} (h:∀ x∈l,P x) (ha:P a):∀ x∈l++[a],P x:=by
 intro x hx
 rcases List.mem_append.1 hx with hx | hx
 ·exact h x hx
 ·rw[List.mem_singleton.1 hx]; exact ha
theorem asc_snoc {l:List Int} {a:Int} (h:l.Pairwise (· < ·)) (ha:∀ x∈l,x<a):(l++[a]).Pairwise (· < ·):=by
 rw[List.pairwise_append]
 exact⟨h,List.pairwise_singleton _ _,fun x hx y hy=>by rw[List.mem_singleton.1 hy]; exact ha x hx⟩
theorem map_take_snoc {f:Int→Int} {l:List Int} {i:Nat} (h:i<l.length):(l.take i).map f++[f (l.getD i 0)]=(l.take (i+1)).map f:=by
 rw[take_one h,List.map_append]; rfl
abbrev pcV (u l:List Int) (w:Int) (ls:List Int):TV := .agg [.sl I64 u .no,.sl I64 l .no,ival w,.sl I64 ls .no]
abbrev Num (u l:List Int) (w:Int):Prop:=3≤u.length∧u.length≤8∧l.length=u.length∧0≤w∧w≤2
structure Ok (u l:List Int) (w:Int) (ls:List Int):Prop where
 n3:3≤u.length
 n8:u.length≤8
 len:l.length=u.length
 hu:∀ x∈u,0≤x∧x≤9
 hl:∀ x∈l,0≤x∧x≤9
 w0:0≤w
 w2:w≤2
 ne:ls≠[]
 lie:∀ x∈ls,0≤x∧x≤3
 asc:ls.Pairwise (· < ·)
def xorI (a b:Int):Int:=IntKind.i64.wrap ((BitVec.ofInt 64 a ^^^ BitVec.ofInt 64 b).toNat:Int)
def laidL (y:Int) (ls:List Int) (i:Nat):List Int:=((List.range i).map Int.ofNat).filter fun x=>decide (xorI x y∈ls)
theorem laidL_yes {y:Int} {ls:List Int} {i:Nat} (h:xorI i y∈ls):laidL y ls i++[(i:Int)]=laidL y ls (i+1):=by
 simp[laidL,List.range_succ,List.filter_append,h]
theorem laidL_no {y:Int} {ls:List Int} {i:Nat} (h:¬ xorI i y∈ls):laidL y ls i=laidL y ls (i+1):=by
 simp[laidL,List.range_succ,List.filter_append,h]
theorem laidL_len (y:Int) (ls:List Int) (i:Nat):(laidL y ls i).length≤i:=by
 unfold laidL
 refine Nat.le_trans (List.length_filter_le _ _) ?_
 simp
theorem laidL_asc (y:Int) (ls:List Int) (i:Nat):(laidL y ls i).Pairwise (· < ·):=by
 unfold laidL
 refine List.Pairwise.filter _ ?_
 rw[List.pairwise_map]
 exact(List.pairwise_lt_range (n:=i)).imp fun h=>Int.ofNat_lt.2 h
def inB (most x:Int):Bool:=decide (0≤x∧x≤most)
theorem all_one {most:Int} {l:List Int} {i:Nat} (h:i<l.length) (h1:(l.take i).all (inB most)=true) (h2:inB most (l.getD i 0)=true):(l.take (i+1)).all (inB most)=true:=by
 rw[take_one h,List.all_append,h1,List.all_cons,h2]; rfl
theorem not_all {most:Int} {l:List Int} {i:Nat} (h:i<l.length) (h2:inB most (l.getD i 0)=false):l.all (inB most)=false:=by
 refine Bool.eq_false_iff.2 fun h1 => ?_
 rw[List.all_eq_true.1 h1 _ (mem_getD h)] at h2
 cases h2
def lieE (ls:List Int) (i:Nat):Int:=if i<ls.length then (if ls.getD i 0<0∨3<ls.getD i 0 then 8 else if 0<i∧ls.getD i 0≤ls.getD (i-1) 0 then 5 else lieE ls (i+1)) else 0
 termination_by ls.length-i
def chk (u l:List Int) (w:Int) (ls:List Int):Int :=
 if u.length<3 then 7 else if 8<u.length then 6 else if l.length<u.length then 7 else if u.length<l.length then 6
 else if u.all (inB 9)=false∨l.all (inB 9)=false∨w<0∨2<w then 1 else if ls.length=0 then 7 else lieE ls 0
theorem lie_8 {ls:List Int} {i:Nat} (h:i<ls.length) (h1:ls.getD i 0<0∨3<ls.getD i 0):lieE ls i=8:=by rw[lieE,if_pos h,if_pos h1]
theorem lie_5 {ls:List Int} {i:Nat} (h:i<ls.length) (h1:¬ (ls.getD i 0<0∨3<ls.getD i 0)) (h2:0<i∧ls.getD i 0≤ls.getD (i-1) 0):lieE ls i=5:=by rw[lieE,if_pos h,if_neg h1,if_pos h2]
theorem lie_next {ls:List Int} {i:Nat} (h:i<ls.length) (h1:¬ (ls.getD i 0<0∨3<ls.getD i 0)) (h2:¬ (0<i∧ls.getD i 0≤ls.getD (i-1) 0)):lieE ls i=lieE ls (i+1):=by
 conv=>lhs; rw[lieE]
 rw[if_pos h,if_neg h1,if_neg h2]
theorem lie_0 {ls:List Int} {i:Nat} (h:¬ i<ls.length):lieE ls i=0:=by rw[lieE,if_neg h]
theorem chk_lie {u l:List Int} {w:Int} {ls:List Int} (h1:¬ u.length<3) (h2:¬ 8<u.length) (h3:¬ l.length<u.length) (h4:¬ u.length<l.length) (h5:(!u.all (inB 9))=false) (h6:(!l.all (inB 9))=false) (h7:¬ w<0) (h8:¬ 2<w) (h9:ls.length≠0):chk u l w ls=lieE ls 0:=by
 simp only[Bool.not_eq_eq_eq_not,Bool.not_false] at h5 h6
 rw[chk,if_neg h1,if_neg h2,if_neg h3,if_neg h4,if_neg (by rw[h5,h6]; simp[h7,h8]),if_neg h9]
abbrev PD:Type:=PieceT.den
abbrev pd (u l:List Int) (w:Int) (ls:List Int):PD:=(u,l,w,ls,())
def chkP (p:PD):Int:=chk p.1 p.2.1 p.2.2.1 p.2.2.2.1
def chkL:List PD→Int
 | []=>0
 | p::l=>if chkP p≠0 then chkP p else chkL l
theorem chkL_append {l m:List PD} (h:chkL l=0):chkL (l++m)=chkL m:=by
 induction l with
 | nil=>rfl
 | cons p l ih =>
  simp only[chkL] at h ⊢
  split at h
  ·rename_i h1; exact(h1 h).elim
  ·rename_i h1; simp only[List.cons_append,chkL,if_neg h1]; exact ih h
theorem chkL_at {l:List PD} {i:Nat} {d:PD} (h:i<l.length) (h1:chkL (l.take i)=0) (h2:chkP (l.getD i d)≠0):chkL l=chkP (l.getD i d):=by
 have e:l.getD i d=l[i]:=by simp[List.getD_eq_getElem?_getD,h]
 rw[e] at h2 ⊢
 conv=>lhs; rw[← List.take_append_drop i l,List.drop_eq_getElem_cons h]
 rw[chkL_append h1,chkL,if_pos h2]
theorem chkL_one {l:List PD} {i:Nat} {d:PD} (h:i<l.length) (h1:chkL (l.take i)=0) (h2:chkP (l.getD i d)=0):chkL (l.take (i+1))=0:=by
 have e:l.getD i d=l[i]:=by simp[List.getD_eq_getElem?_getD,h]
 rw[e] at h2
 rw[← List.take_append_getElem h,chkL_append h1,chkL,if_neg (by simp[h2])]; rfl
def shortP (p:PD):Prop:=p.1.length≤1000∧p.2.1.length≤1000∧p.2.2.2.1.length≤1000
theorem getD_all {P:PD→Prop} {l:List PD} {i:Nat} {d:PD} (h:i<l.length) (hl:∀ p∈l,P p):P (l.getD i d):=by
 have e:l.getD i d=l[i]:=by simp[List.getD_eq_getElem?_getD,h]
 rw[e]; exact hl _ (List.getElem_mem _)
abbrev edV (u l:List Int):TV := .agg [.sl I64 u .no,.sl I64 l .no]
def inH (l:List Int):Prop:=∀ x∈l,0≤x∧x≤9
theorem inH_at {l:List Int} {i:Nat} (h:inH l) (hi:i<l.length):0≤l.getD i 0∧l.getD i 0≤9:=h _ (mem_getD hi)
def colL (la ub:List Int) (s:Int):Nat→List Int
 | 0=>[]
 | i+1=>if 0≤(i:Int)+s∧(i:Int)+s<la.length then colL la ub s i++[ub.getD i 0+la.getD ((i:Int)+s).toNat 0] else colL la ub s i
def stS (st:Int×Int×Int) (x:Int):Int×Int×Int:=(if x<(if st.2.2=0 then x else st.1) then x else (if st.2.2=0 then x else st.1),if x>(if st.2.2=0 then x else st.2.1) then x else (if st.2.2=0 then x else st.2.1),st.2.2+1)
def stF (l:List Int):Int×Int×Int:=l.foldl stS (0,0,0)
theorem stF_snoc {l:List Int} {lo hi m x:Int} (h:stF l=(lo,hi,m)) (h0:m=0):stF (l++[x])=(if x<x then x else x,if x>x then x else x,m+1):=by
 subst h0
 rw[stF,List.foldl_append,← stF,h]; rfl
theorem stF_snoc' {l:List Int} {lo hi m x:Int} (h:stF l=(lo,hi,m)) (h0:m≠0):stF (l++[x])=(if x<lo then x else lo,if x>hi then x else hi,m+1):=by
 rw[stF,List.foldl_append,← stF,h]
 simp only[List.foldl_cons,List.foldl_nil,stS,if_neg h0]
theorem colL_none {la ub:List Int} {s:Int} (h:s ≤ -(ub.length:Int)∨(la.length:Int)≤s):colL la ub s ub.length=[]:=by
 have key:∀ i,i≤ub.length→colL la ub s i=[]:=by
  intro i
  induction i with
  | zero=>intro _; rfl
  | succ i ih=>intro hi; rw[colL,if_neg (by omega)]; exact ih (by omega)
 exact key _ (Nat.le_refl _)
abbrev stA (la ub:List Int) (s:Int):Int×Int×Int:=stF (colL la ub s ub.length)
def fitsAt (la ub:List Int) (wear s:Int):Bool:=decide (3≤(stF (colL la ub s ub.length)).2.2∧(stF (colL la ub s ub.length)).2.1-(stF (colL la ub s ub.length)).1≤wear)
def shL (la ub:List Int) (wear:Int) (k:Nat):List Int:=((List.range k).map fun(j:Nat)=>(j:Int)-(ub.length:Int)).filter (fitsAt la ub wear)
theorem shL_yes {la ub:List Int} {wear:Int} {k:Nat} (h:fitsAt la ub wear ((k:Int)-(ub.length:Int))=true):shL la ub wear k++[(k:Int)-(ub.length:Int)]=shL la ub wear (k+1):=by
 simp[shL,List.range_succ,List.filter_append,h]
theorem shL_no {la ub:List Int} {wear:Int} {k:Nat} (h:fitsAt la ub wear ((k:Int)-(ub.length:Int))=false):shL la ub wear k=shL la ub wear (k+1):=by
 simp[shL,List.range_succ,List.filter_append,h]
theorem shL_len (la ub:List Int) (wear:Int) (k:Nat):(shL la ub wear k).length≤k:=by
 unfold shL
 refine Nat.le_trans (List.length_filter_le _ _) ?_
 simp
theorem stF_in {l:List Int} (h:∀ x∈l,0≤x∧x≤18):0≤(stF l).1∧(stF l).1≤18∧0≤(stF l).2.1∧(stF l).2.1≤18∧0≤(stF l).2.2:=by
 have key:∀ (l:List Int) (st:Int×Int×Int),(∀ x∈l,0≤x∧x≤18)→(0≤st.1∧st.1≤18∧0≤st.2.1∧st.2.1≤18∧0≤st.2.2)→0≤(l.foldl stS st).1∧(l.foldl stS st).1≤18∧0≤(l.foldl stS st).2.1∧(l.foldl stS st).2.1≤18∧0≤(l.foldl stS st).2.2:=by
  intro l
  induction l with
  | nil=>intro st _ h; exact h
  | cons x l ih =>
   intro st hx h
   have h1:=hx x (by simp)
   refine ih _ (fun y hy=>hx y (by simp[hy])) ?_
   obtain⟨a,b,c⟩:=st
   simp only[stS] at h ⊢
   refine⟨?_,?_,?_,?_,?_⟩<;>(repeat' split)<;>omega
 exact key l _ h (by simp)
theorem colL_in {la ub:List Int} {s:Int} (h1:inH la) (h2:inH ub):∀ i,i≤ub.length→∀ x∈colL la ub s i,0≤x∧x≤18
 | 0,_,x,hx=>by cases hx
 | i+1,hi,x,hx=>by
  rw[colL] at hx
  split at hx
  ·rename_i hc
   rcases List.mem_append.1 hx with hx | hx
   ·exact colL_in h1 h2 i (by omega) x hx
   ·rw[List.mem_singleton] at hx
    have k1:=inH_at h2 (i:=i) (by omega)
    have k2:=inH_at h1 (i:=((i:Int)+s).toNat) (by omega)
    omega
  ·exact colL_in h1 h2 i (by omega) x hx
theorem stA_in {la ub:List Int} (s:Int) (h1:inH la) (h2:inH ub):0≤(stA la ub s).1∧(stA la ub s).1≤18∧0≤(stA la ub s).2.1∧(stA la ub s).2.1≤18∧0≤(stA la ub s).2.2:=stF_in (colL_in h1 h2 _ (Nat.le_refl _))
theorem all_inB {m:Int} {l:List Int}:l.all (inB m)=true↔∀ x∈l,0≤x∧x≤m:=by simp[inB]
theorem lieE_zero {ls:List Int}:∀ (n i:Nat),ls.length-i=n→(lieE ls i=0↔∀ j,i≤j→j<ls.length→(0≤ls.getD j 0∧ls.getD j 0≤3)∧(0<j→ls.getD (j-1) 0<ls.getD j 0)):=by
 intro n
 induction n with
 | zero=>intro i h; rw[lie_0 (by omega)]; exact⟨fun _ j h1 h2=>by omega,fun _=>rfl⟩
 | succ n ih =>
  intro i h
  by_cases h1:ls.getD i 0<0∨3<ls.getD i 0
  ·rw[lie_8 (by omega) h1]
   exact⟨fun e=>by omega,fun e=>by have:=(e i (Nat.le_refl _) (by omega)).1; omega⟩
  ·by_cases h2:0<i∧ls.getD i 0≤ls.getD (i-1) 0
   ·rw[lie_5 (by omega) h1 h2]
    exact⟨fun e=>by omega,fun e=>by have:=(e i (Nat.le_refl _) (by omega)).2 h2.1; omega⟩
   ·rw[lie_next (by omega) h1 h2,ih (i+1) (by omega)]
    refine⟨fun e j hj hj' => ?_,fun e j hj hj'=>e j (by omega) hj'⟩
    by_cases hij:j=i
    ·subst hij; exact⟨by omega,fun h3=>by omega⟩
    ·exact e j (by omega) hj'
theorem asc_of {ls:List Int} (h:∀ j,0<j→j<ls.length→ls.getD (j-1) 0<ls.getD j 0):ls.Pairwise (· < ·):=by
 rw[List.pairwise_iff_getElem]
 have key:∀ j i,i<j→(hj:j<ls.length)→ls.getD i 0<ls.getD j 0:=by
  intro j
  induction j with
  | zero=>intro i hi; omega
  | succ j ih =>
   intro i hi hj
   have h1:=h (j+1) (by omega) hj
   simp only[Nat.add_sub_cancel] at h1
   by_cases e:i=j
   ·subst e; exact h1
   ·have:=ih i (by omega) (by omega); omega
 intro i j hi hj hij
 have:=key j i hij hj
 rwa [getD_at hi,getD_at hj] at this
theorem of_asc {ls:List Int} (h:ls.Pairwise (· < ·)) {j:Nat} (h0:0<j) (hj:j<ls.length):ls.getD (j-1) 0<ls.getD j 0:=by
 rw[List.pairwise_iff_getElem] at h
 rw[getD_at hj,getD_at (by omega)]
 exact h _ _ _ _ (by omega)
theorem chk_ok {u l:List Int} {w:Int} {ls:List Int}:chk u l w ls=0↔Ok u l w ls:=by
 unfold chk
 constructor
 ·intro h
  split at h; omega
  split at h; omega
  split at h; omega
  split at h; omega
  split at h; omega
  split at h; omega
  rename_i h1 h2 h3 h4 h5 h6
  simp only[not_or,Bool.not_eq_false] at h5
  have hz:=(lieE_zero _ 0 rfl).1 h
  refine⟨by omega,by omega,by omega,all_inB.1 h5.1,all_inB.1 h5.2.1,by omega,by omega,fun e=>h6 (by rw[e]; rfl),fun x hx => ?_,asc_of fun j hj hj'=>(hz j (Nat.zero_le _) hj').2 hj⟩
  obtain⟨j,hj,rfl⟩:=List.getElem_of_mem hx
  have:=(hz j (Nat.zero_le _) hj).1
  rwa [getD_at hj] at this
 ·intro h
  have h1:=h.n3
  have h2:=h.n8
  have h3:=h.len
  have h4:=h.w0
  have h5:=h.w2
  have h6:ls.length≠0:=fun e=>h.ne (List.eq_nil_of_length_eq_zero e)
  rw[if_neg (by omega),if_neg (by omega),if_neg (by omega),if_neg (by omega),if_neg (by rw[all_inB.2 h.hu,all_inB.2 h.hl]; simp; omega),if_neg h6]
  exact(lieE_zero _ 0 rfl).2 fun j _ hj=>⟨h.lie _ (mem_getD hj),fun h0=>of_asc h.asc h0 hj⟩
def Sh (u l ls:List Int):Prop:=u.length≤1000∧l.length≤1000∧ls.length≤1000
theorem short2 {ua la lsa ub lb lsb:List Int} {wa wb:Int} (h1:Sh ua la lsa) (h2:Sh ub lb lsb):∀ p∈[pd ua la wa lsa,pd ub lb wb lsb],shortP p:=by
 intro p hp
 simp only[List.mem_cons,List.not_mem_nil,or_false] at hp
 rcases hp with rfl | rfl
 ·exact h1
 ·exact h2
theorem chkL_two {ua la lsa ub lb lsb:List Int} {wa wb:Int} (h:chkL [pd ua la wa lsa,pd ub lb wb lsb]=0):Ok ua la wa lsa∧Ok ub lb wb lsb:=by
 simp only[chkL] at h
 split at h
 ·rename_i h1; exact(h1 h).elim
 ·rename_i h1
  split at h
  ·rename_i h2; exact(h2 h).elim
  ·rename_i h2; exact⟨chk_ok.1 (Decidable.not_not.1 h1),chk_ok.1 (Decidable.not_not.1 h2)⟩
theorem two_chkL {ua la lsa ub lb lsb:List Int} {wa wb:Int} (h1:Ok ua la wa lsa) (h2:Ok ub lb wb lsb):chkL [pd ua la wa lsa,pd ub lb wb lsb]=0:=by
 have e1:chkP (pd ua la wa lsa)=0:=chk_ok.2 h1
 have e2:chkP (pd ub lb wb lsb)=0:=chk_ok.2 h2
 simp[chkL,e1,e2]
theorem Ok.num {u l:List Int} {w:Int} {ls:List Int} (h:Ok u l w ls):(3≤u.length∧u.length≤8∧l.length=u.length∧0≤w∧w≤2)∧inH u∧inH l:=⟨⟨h.n3,h.n8,h.len,h.w0,h.w2⟩,h.hu,h.hl⟩
def cutD (la ub:List Int) (wa wb s:Int):RangeT.den:=((stF (colL la ub s ub.length)).2.1,(stF (colL la ub s ub.length)).1+wa+wb,())
theorem sh_ok {u l:List Int} {w:Int} {ls:List Int} (h:Ok u l w ls):Sh u l ls:=by
 refine⟨by have:=h.n8; omega,by have:=h.n8; have:=h.len; omega,?_⟩
 have key:∀ (ls:List Int) (m:Int),m≤4→(∀ x∈ls,m≤x∧x≤3)→ls.Pairwise (· < ·)→(ls.length:Int)≤4-m:=by
  intro ls
  induction ls with
  | nil=>intro m hm _ _; simp; omega
  | cons x ls ih =>
   intro m hm h1 h2
   rw[List.pairwise_cons] at h2
   have h3:=h1 x (by simp)
   have:=ih (x+1) (by omega) (fun y hy=>⟨by have:=h2.1 y hy; omega,(h1 y (by simp[hy])).2⟩) h2.2
   simp only[List.length_cons]
   omega
 have:=key ls 0 (by omega) h.lie h.asc
 omega
def colAt (la ub:List Int) (s:Int) (i:Nat):Option Int:=if 0≤(i:Int)+s∧(i:Int)+s<la.length then some (ub.getD i 0+la.getD ((i:Int)+s).toNat 0) else none
def layU (n:Int) (u l:List Int):List Int:=if n=1 then l.reverse else if n=2 then u.reverse else if n=3 then l else u
def layL (n:Int) (u l:List Int):List Int:=if n=1 then u.reverse else if n=2 then l.reverse else if n=3 then u else l
theorem ok_below {l a l1:List Int} {w:Int} {ls:List Int} (h:Ok a l1 w ls) (hn:l1.length=l.length) (hl:inH l):Ok (l.map (9-·)) l1 w ls where
 n3:=by have:=h.n3; have:=h.len; simp; omega
 n8:=by have:=h.n8; have:=h.len; simp; omega
 len:=by simp; omega
 hu:=fun x hx=>by
  simp only[List.mem_map] at hx
  obtain⟨y,hy,rfl⟩:=hx
  have:=hl y hy
  omega
 hl:=h.hl
 w0:=h.w0
 w2:=h.w2
 ne:=h.ne
 lie:=h.lie
 asc:=h.asc
def fitR (la ub:List Int) (w s:Int):Int×Int×Int:=if (stA la ub s).2.2<3 then (0,0,7) else if (stA la ub s).2.1-(stA la ub s).1>w then (0,0,11) else ((stA la ub s).2.1,(stA la ub s).1+w,0)
theorem fitR_ok {la ub:List Int} {w s:Int} (h:fitsAt la ub w s=true):fitR la ub w s=((stA la ub s).2.1,(stA la ub s).1+w,0):=by
 have h:=of_decide_eq_true h
 rw[fitR,if_neg (Int.not_lt.2 h.1),if_neg (Int.not_lt.2 h.2)]
end Go.Tv
end
section
namespace Go.Tv
open Go Go.Di Go.Proofs
set_option maxRecDepth 100000
def D53:List TV→Dn
  | [.sl (.int .i64) l .no,.val (.int .i64 x)]=>some ([l.length≤1000],.res (bval (decide (x∈l))) [] [],[(3,.ex Nat fun i => .st { sl:=[(5,ival i)],good:=[i≤l.length,x ∉ l.take i],m:=l.length-i })])
  | _=>none
theorem v53:VI T0 Tryz.f97 [some .bool] D53:=by
  intro a p s j h hp
  unfold D53 at h
  split at h<;>cases h
  rename_i l x
  have h1:=hp.1
  refine vcp (A:=(∃ (a:Nat),(0:Int)=(↑a:Int)∧a≤l.length∧¬x∈List.take a l∧l.length-a<(1000000:Nat))∧∀ (a:Nat),a≤l.length→¬x∈List.take a l→vcIf (decide ((↑a:Int)<(↑l.length:Int))) (((0:Int)≤(↑a:Int)∧(↑a:Int)<(↑l.length:Int))∧vcIf (l.getD a (0:Int)==x) (true=decide (x∈l)∧True) (rng ((↑a:Int)+(1:Int))∧∃ (a_3:Nat),l=l∧x=x∧(↑a:Int)+(1:Int)=(↑a_3:Int)∧a_3≤l.length∧¬x∈List.take a_3 l∧l.length-a_3<l.length-a)) (false=decide (x∈l)∧True)) (by kernel_rfl) ?_
  simp only[vc_dec,vc_beq,vc_bne,vc_not,nil_e,rng,and_true,true_and,eq_self]
  refine⟨⟨0,by omega,by omega,by simp,by omega⟩,fun i h2 h3=>⟨fun h4=>⟨by omega,fun h5 => ?_,fun h5=>⟨by omega,i+1,by omega,by omega,?_,by omega⟩⟩,fun h4 => ?_⟩⟩
  · rw[decide_eq_true]; rw[← h5]; exact mem_getD (by omega)
  · rw[take_one (by omega)]; simp only[List.mem_append,List.mem_singleton,not_or]; exact⟨h3,fun e=>h5 e.symm⟩
  · rw[show i=l.length by omega,List.take_length] at h3; rw[decide_eq_false h3]
def D52:List TV→Dn
  | [.sl (.int .i64) l .no]=>some ([l.length≤1000],.res (.sl I64 l.reverse .no) [] [],[(4,.ex Nat fun i => .st { sl:=[(3,.sl I64 ((l.drop i).reverse) (.lab 0)),(4,ival ((i:Nat)-1:Int))],own:=[(3,1)],good:=[i≤l.length],m:=i })])
  | _=>none
theorem v52:VI T0 Tryz.f119 [some IntsT] D52:=by
  intro a p s j h hp
  unfold D52 at h
  split at h<;>cases h
  rename_i l
  have h1:=hp.1
  refine vcp (A:=rng ((↑l.length:Int)-(1:Int))∧(∃ (a:Nat),[]=(List.drop a l).reverse∧(↑l.length:Int)-(1:Int)=(↑a:Int)-(1:Int)∧a≤l.length∧a<(1000000:Nat))∧∀ (a:Nat),a≤l.length→vcIf (decide ((↑a:Int)-(1:Int)≥(0:Int))) (((0:Int)≤(↑a:Int)-(1:Int)∧(↑a:Int)-(1:Int)<(↑l.length:Int))∧(List.drop a l).reverse.length+(1:Nat)≤(1000000000:Nat)∧rng ((↑a:Int)-(1:Int)-(1:Int))∧∃ (a_2:Nat),l=l∧nilE I64.den∧(List.drop a l).reverse++[l.getD ((↑a:Int)-(1:Int)).toNat (0:Int)]=(List.drop a_2 l).reverse∧(↑a:Int)-(1:Int)-(1:Int)=(↑a_2:Int)-(1:Int)∧a_2≤l.length∧a_2<a) ((List.drop a l).reverse=l.reverse∧True)) (by kernel_rfl) ?_
  simp only[vc_dec,vc_beq,vc_bne,vc_not,nil_e,rng,and_true,true_and,eq_self]
  refine⟨by omega,⟨l.length,by simp,by omega,by omega,by omega⟩,fun i h2=>⟨fun h3=>⟨by omega,by simp; omega,by omega,i-1,?_,by omega,by omega,by omega⟩,fun h3 => ?_⟩⟩
  · obtain⟨j,rfl⟩:∃ j,i=j+1:=⟨i-1,by omega⟩
    rw[show ((j+1:Nat):Int)-1=(j:Int) by omega,Int.toNat_natCast,drop_one (by omega)]; rfl
  · rw[show i=0 by omega,List.drop_zero]
def D29:List TV→Dn
  | [.sl (.int .i64) l .no,.val (.int .i64 x)]=>some ([l.length≤1000],.res (ival (indexI l x)) [] [],[(3,.ex Nat fun i => .st { sl:=[(5,ival i)],good:=[i≤l.length,x ∉ l.take i],m:=l.length-i })])
  | _=>none
theorem v29:VI T0 Tryz.f54 [some I64] D29:=by
  intro a p s j h hp
  unfold D29 at h
  split at h<;>cases h
  rename_i l x
  have h1:=hp.1
  refine vcp (A:=(∃ (a:Nat),(0:Int)=(↑a:Int)∧a≤l.length∧¬x∈List.take a l∧l.length-a<(1000000:Nat))∧∀ (a:Nat),a≤l.length→¬x∈List.take a l→vcIf (decide ((↑a:Int)<(↑l.length:Int))) (((0:Int)≤(↑a:Int)∧(↑a:Int)<(↑l.length:Int))∧vcIf (l.getD a (0:Int)!=x) (rng ((↑a:Int)+(1:Int))∧∃ (a_3:Nat),l=l∧x=x∧(0:Int)=(0:Int)∧(↑a:Int)+(1:Int)=(↑a_3:Int)∧a_3≤l.length∧¬x∈List.take a_3 l∧l.length-a_3<l.length-a) (vcIf ((↑a:Int)==(↑l.length:Int)) ((-1:Int)=indexI l x∧True) ((↑a:Int)=indexI l x∧True))) (vcIf ((↑a:Int)==(↑l.length:Int)) ((-1:Int)=indexI l x∧True) ((↑a:Int)=indexI l x∧True))) (by kernel_rfl) ?_
  simp only[vc_dec,vc_beq,vc_bne,vc_not,nil_e,rng,and_true,true_and,eq_self]
  refine⟨⟨0,by omega,by omega,by simp,by omega⟩,fun i h2 h3=>⟨fun h4=>⟨by omega,fun h5=>⟨fun h6=>by omega,fun _ => ?_⟩,fun h5=>⟨by omega,i+1,by omega,by omega,?_,by omega⟩⟩,fun h4=>⟨fun h6 => ?_,fun h6=>by omega⟩⟩⟩
  · rw[indexI_at (by omega) h3 h5]
  · rw[take_one (by omega)]; simp only[List.mem_append,List.mem_singleton,not_or]; exact⟨h3,fun e=>h5 e.symm⟩
  · rw[show i=l.length by omega,List.take_length] at h3; rw[indexI,if_neg h3]
def D97:List TV→List TV→Dn
  | [.val (.int .i64 x),.ptr 0 0],[.val (.int .i64 most)]=>some ([],.res (bval (!inB most x)) [ival most] [],[])
  | _,_=>none
theorem v97:VC T0 Tryz.f121 [some .bool] [some I64] D97:=by
  intro a cs p s j h hp
  unfold D97 at h
  split at h<;>cases h
  rename_i x most
  refine vcp (A:=vcIf (decide (x<(0:Int))) (true = !inB most x∧most=most∧True) (decide (x>most) = !inB most x∧most=most∧True)) (by kernel_rfl) ?_
  simp only[vc_dec,vc_beq,vc_bne,vc_not,nil_e,rng,and_true,true_and,eq_self]
  refine⟨fun h => ?_,fun h => ?_⟩
  · rw[inB,decide_eq_false (by omega)]; rfl
  · rw[inB,← decide_not,decide_eq_decide]; omega
def T1:Tbl:=(((T0.addI 97 fun a=>dS (D53 a)).addI 119 fun a=>dS (D52 a)).addI 54 fun a=>dS (D29 a)).addC 121 fun a c=>dS (D97 a c)
def D109:List TV→List TV→Dn
  | [.sl (.int .i64) l .no,.fn 121 [] [.ptr 0 0]],[.val (.int .i64 most)]=>some ([l.length≤1000],.ex Int fun k => .res (ival k) [ival most] [if l.all (inB most) then k = -1 else 0≤k],[(3,.ex Nat fun i => .st { sl:=[(8,ival i)],good:=[i≤l.length,(l.take i).all (inB most)=true],m:=l.length-i })])
  | _,_=>none
theorem v109:VC T1 Tryz.f132 [some I64] [some I64] D109:=by
  intro a cs p s j h hp
  unfold D109 at h
  split at h<;>cases h
  rename_i l most
  have h1:=hp.1
  refine vcp (A:=(∃ (a:Nat),(0:Int)=(↑a:Int)∧a≤l.length∧(List.take a l).all (inB most)=true∧l.length-a<(1000000:Nat))∧∀ (a:Nat),a≤l.length→(List.take a l).all (inB most)=true→vcIf (decide ((↑a:Int)<(↑l.length:Int))) (((0:Int)≤(↑a:Int)∧(↑a:Int)<(↑l.length:Int))∧vcIf (!inB most (l.getD a (0:Int))) (∃ (a_3:Int),(↑a:Int)=a_3∧most=most∧(if l.all (inB most)=true then a_3=(-1:Int) else (0:Int)≤a_3)∧True) (rng ((↑a:Int)+(1:Int))∧∃ (a_3:Nat),l=l∧(↑l.length:Int)=(↑l.length:Int)∧(↑a:Int)+(1:Int)=(↑a_3:Int)∧most=most∧a_3≤l.length∧(List.take a_3 l).all (inB most)=true∧l.length-a_3<l.length-a)) (∃ (a:Int),(-1:Int)=a∧most=most∧(if l.all (inB most)=true then a=(-1:Int) else (0:Int)≤a)∧True)) (by kernel_rfl) ?_
  simp only[vc_dec,vc_beq,vc_bne,vc_not,nil_e,rng,and_true,true_and,eq_self]
  refine⟨⟨0,by omega,by omega,by simp,by omega⟩,fun i h2 h3=>⟨fun h4=>⟨by omega,?_⟩,fun h4 => ?_⟩⟩
  · rw[vc_iff]
    refine⟨fun h5=>⟨by omega,i+1,by omega,by omega,all_one (by omega) h3 h5,by omega⟩,fun h5=>⟨_,rfl,?_⟩⟩
    rw[not_all (i:=i) (by omega) h5]; simp
  · rw[show i=l.length by omega,List.take_length] at h3; exact⟨_,rfl,by rw[h3]; simp⟩
def D16:List TV→Dn
  | [.agg [.sl (.int .i64) u .no,.sl (.int .i64) l .no,.val (.int .i64 w),.sl (.int .i64) ls .no],.val (.int .i64 n)]=>some ([u.length≤1000,l.length≤1000,ls.length≤1000,0≤n,n≤3],.res (pcV (layU n u l) (layL n u l) w (laidL n ls 4)) [] [],
    [(2,.ex (List Int) fun u1 => .ex (List Int) fun l1 => .st { sl:=[(5,.ptr 13 0)],pl:=[(13,[.sl I64 u1 .no,.sl I64 l1 .no,ival w,.nils])],good:=[u1=if n=1∨n=3 then l.reverse else u,l1=if n=1∨n=3 then u.reverse else l] }),
     (4,.st { sl:=[(5,.ptr 13 0)],pl:=[(13,[.sl I64 (layU n u l) .no,.sl I64 (layL n u l) .no,ival w,.nils])] }),
     (8,.ex Nat fun i => .st { sl:=[(6,ival i)],pl:=[(13,[.sl I64 (layU n u l) .no,.sl I64 (layL n u l) .no,ival w,.sl I64 (laidL n ls i) (.lab 14)])],own:=[(3,1)],good:=[i≤4],m:=4-i })])
  | _=>none
theorem v16:VI T1 Tryz.f81 [some PieceT] D16:=by
  intro a p s j h hp
  unfold D16 at h
  split at h<;>cases h
  rename_i u l w ls n
  obtain⟨h1,h2,h3,h4,h5,-⟩:=hp
  refine vcp (A:=(0:Nat)+u.length≤(1000000000:Nat)∧(0:Nat)+l.length≤(1000000000:Nat)∧vcIf (n==(1:Int)) (l.length≤(1000:Nat)∧u.length≤(1000:Nat)∧∃ (a:List Int),∃ (a_1:List Int),n=n∧u=u∧l=l∧w=w∧ls=ls∧(0:Int)=(0:Int)∧l.reverse=a∧u.reverse=a_1∧w=w∧(a=if n=(1:Int)∨n=(3:Int) then l.reverse else u)∧(a_1=if n=(1:Int)∨n=(3:Int) then u.reverse else l)∧True) (vcIf (n==(3:Int)) (l.length≤(1000:Nat)∧u.length≤(1000:Nat)∧∃ (a:List Int),∃ (a_1:List Int),n=n∧u=u∧l=l∧w=w∧ls=ls∧(0:Int)=(0:Int)∧l.reverse=a∧u.reverse=a_1∧w=w∧(a=if n=(1:Int)∨n=(3:Int) then l.reverse else u)∧(a_1=if n=(1:Int)∨n=(3:Int) then u.reverse else l)∧True) (∃ (a:List Int),∃ (a_1:List Int),n=n∧u=u∧l=l∧w=w∧ls=ls∧(0:Int)=(0:Int)∧u=a∧l=a_1∧w=w∧(a=if n=(1:Int)∨n=(3:Int) then l.reverse else u)∧(a_1=if n=(1:Int)∨n=(3:Int) then u.reverse else l)∧True))∧∀ (a a_1:List Int),(a=if n=(1:Int)∨n=(3:Int) then l.reverse else u)→(a_1=if n=(1:Int)∨n=(3:Int) then u.reverse else l)→vcIf (n==(2:Int)) (a.length≤(1000:Nat)∧a_1.length≤(1000:Nat)∧n=n∧u=u∧l=l∧w=w∧ls=ls∧(0:Int)=(0:Int)∧a.reverse=layU n u l∧a_1.reverse=layL n u l∧w=w∧True) (vcIf (n==(3:Int)) (a.length≤(1000:Nat)∧a_1.length≤(1000:Nat)∧n=n∧u=u∧l=l∧w=w∧ls=ls∧(0:Int)=(0:Int)∧a.reverse=layU n u l∧a_1.reverse=layL n u l∧w=w∧True) (n=n∧u=u∧l=l∧w=w∧ls=ls∧(0:Int)=(0:Int)∧a=layU n u l∧a_1=layL n u l∧w=w∧True))∧(∃ (a:Nat),(0:Int)=(↑a:Int)∧layU n u l=layU n u l∧layL n u l=layL n u l∧w=w∧[]=laidL n ls a∧a≤(4:Nat)∧(4:Nat)-a<(1000000:Nat))∧∀ (a:Nat),a≤(4:Nat)→vcIf (decide ((↑a:Int)≤(3:Int))) (ls.length≤(1000:Nat)∧vcIf (decide (IntKind.i64.wrap (↑(BitVec.ofInt (64:Nat) (↑a:Int) ^^^ BitVec.ofInt (64:Nat) n).toNat:Int)∈ls)) ((laidL n ls a).length+(1:Nat)≤(1000000000:Nat)∧rng ((↑a:Int)+(1:Int))∧∃ (a_5:Nat),n=n∧(↑a:Int)+(1:Int)=(↑a_5:Int)∧u=u∧l=l∧w=w∧ls=ls∧(0:Int)=(0:Int)∧layU n u l=layU n u l∧layL n u l=layL n u l∧w=w∧laidL n ls a++[(↑a:Int)]=laidL n ls a_5∧a_5≤(4:Nat)∧(4:Nat)-a_5<(4:Nat)-a) (rng ((↑a:Int)+(1:Int))∧∃ (a_5:Nat),n=n∧(↑a:Int)+(1:Int)=(↑a_5:Int)∧u=u∧l=l∧w=w∧ls=ls∧(0:Int)=(0:Int)∧layU n u l=layU n u l∧layL n u l=layL n u l∧w=w∧laidL n ls a=laidL n ls a_5∧a_5≤(4:Nat)∧(4:Nat)-a_5<(4:Nat)-a)) (layU n u l=layU n u l∧layL n u l=layL n u l∧w=w∧laidL n ls a=laidL n ls (4:Nat)∧True)) (by kernel_rfl) ?_
  simp only[vc_dec,vc_beq,vc_bne,rng,and_true,true_and,eq_self]
  refine⟨by omega,by omega,⟨fun e=>⟨h2,h1,_,_,rfl,rfl,by simp[e],by simp[e]⟩,fun e=>⟨fun e1=>⟨h2,h1,_,_,rfl,rfl,by simp[e1],by simp[e1]⟩,fun e1=>⟨_,_,rfl,rfl,by simp[e,e1],by simp[e,e1]⟩⟩⟩,?_⟩
  rintro _ _ rfl rfl
  refine⟨⟨fun e=>⟨by split<;>simp_all,by split<;>simp_all,by simp[e,layU],by simp[e,layL]⟩,fun e=>⟨fun e1=>⟨by split<;>simp_all,by split<;>simp_all,by simp[e1,layU],by simp[e1,layL]⟩,fun e1=>⟨by simp[e,e1,layU],by simp[e,e1,layL]⟩⟩⟩,⟨0,rfl,rfl,by omega,by omega⟩,fun i hi=>⟨fun h=>⟨h3,?_⟩,fun h=>by rw[show i=4 by omega]⟩⟩
  have hx:=laidL_len n ls i
  change (xorI i n∈ls→_)∧(¬ xorI i n∈ls→_)
  exact⟨fun h=>⟨by omega,by omega,i+1,by omega,laidL_yes h,by omega,by omega⟩,fun h=>⟨by omega,i+1,by omega,laidL_no h,by omega,by omega⟩⟩
section
variable {tab:IsoF} (tk:TabK tab)
include tk
theorem tok1:TOK tab 1 T1:=mkC (tok_0 tk) Tryz.func121 rfl v97 (mkI tk (tok_0 tk) (by decide) Tryz.func54 rfl v29 (mkI tk (tok_0 tk) (by decide) Tryz.func119 rfl v52 (mkI tk (tok_0 tk) (by decide) Tryz.func97 rfl v53 (tok_up (tok_0 tk)))))
end
end Go.Tv
end
