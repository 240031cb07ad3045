import Derived.Test.YtedcgbkilmlbhaaPk06
section
namespace Go.Tv
open Go Go.Di Go.Proofs
variable {P:Program} {ty:Tys} {tt:TypeId→Option TT} {T:Tbl} {ι ι' w:Ids} {S S':Store} {te te1:List TV} {env:List DV} {tS tS1:List TB} {iso:IsoF} {call:CallF} {yf:YldF} {o:Oper} {nid nT:Nat} {B:List Nat} {r:TR} {ops:Array Oper} {L:Nat} {fn:FuncId} {rnd:Bool} {fs:List Foot}
theorem md3 {md:Nat} (h:md≤2):md=0∨md=1∨md=2:=by omega
theorem map_true {α β:Type} {x:Option α} {f:α→β} {q:β×Prop} (h:x.map (fun a=>(f a,True))=some q):q.2:=by
 simp only[Option.map_eq_some_iff] at h
 obtain⟨_,_,rfl⟩:=h
 trivial
theorem noC_pure {q:TV×Prop} (hc:condOp o=false) (h:pureT P ty tt te tS o=some q):q.2:=by
 unfold condOp at hc
 unfold pureT at h
 cases ho:o.op
 all_goals simp only[ho] at hc h
 all_goals try (cases hc; done)
 all_goals repeat' (split at h)
 all_goals first
  | (cases h; done)
  | (cases h; trivial)
  | exact map_true h
  | (simp only[Option.map_eq_some_iff] at h; obtain⟨_,_,rfl⟩:=h; trivial)
theorem noC_step {q:TR} (hc:condOp o=false) (h:stepT P ty tt te tS o nT=some q):q.c:=by
 have hp:∀ {q:TR},((pureT P ty tt te tS o).map fun r=>(⟨r.1,te,tS,readsT te o,r.2⟩:TR))=some q→q.c:=by
  intro q h
  simp only[Option.map_eq_some_iff] at h
  obtain⟨a,h1,rfl⟩:=h
  exact noC_pure hc h1
 unfold stepT at h
 split at h
 ·split at h
  ·cases h; trivial
  ·cases h
 ·split at h
  ·split at h
   ·cases h; trivial
   ·cases h
  ·cases h
 ·split at h
  ·split at h
   ·split at h
    ·simp only[Option.map_eq_some_iff] at h
     obtain⟨_,_,rfl⟩:=h
     trivial
    ·cases h
   ·cases h
  ·cases h
 ·rename_i ho
  simp only[condOp,ho] at hc
  cases hc
 ·exact hp h
def Nb (o:Oper):Prop:=(∃ op t x y u,o.op = .binOp op t x y u)∨∃ op t x,o.op = .unOp op t x
theorem step_of_pure {v:TV} (hb:Nb o) (h:pureT P ty tt te tS o=some (v,True)):stepT P ty tt te tS o nT=some ⟨v,te,tS,[],True⟩:=by
 rcases hb with ⟨op,t,x,y,u,ho⟩ | ⟨op,t,x,ho⟩<;>simp only[stepT,ho,h,Option.map_some,readsT]
theorem arith_bin {v:TV} {c:Prop} (h:arithT te o=some (v,c)):Nb o:=by
 unfold arithT at h
 split at h
 ·rename_i ho; exact .inl ⟨_,_,_,_,_,ho⟩
 ·rename_i ho; exact .inl ⟨_,_,_,_,_,ho⟩
 ·rename_i ho; exact .inl ⟨_,_,_,_,_,ho⟩
 ·rename_i ho; exact .inr ⟨_,_,_,ho⟩
 ·cases h
theorem cmp_bin {b:Bool} (h:cmpT P te o=some b):Nb o:=by
 unfold cmpT at h
 split at h
 ·rename_i ho; exact .inl ⟨_,_,_,_,_,ho⟩
 ·rename_i ho; exact .inl ⟨_,_,_,_,_,ho⟩
 ·cases h
theorem bin_wr (hb:Nb o):wrOf o=false:=by
 rcases hb with ⟨op,t,x,y,u,ho⟩ | ⟨op,t,x,ho⟩<;>simp only[wrOf,ho]
theorem callV_ok {g:FuncId} {targs:List TV} (h:callV tt te o=some (g,targs)):∃ f args argTypes fs cs xs,o.op = .call { callee := .value f,args,argTypes }∧evT te f=some (.fn g fs cs)∧evsT te args.toList=some xs∧(fs++xs++cs).all pureB=true∧normL (argTys tt fs argTypes) (fs++xs++cs)=targs:=by
 unfold callV at h
 split at h
 ·rename_i f args argTypes ho
  split at h
  ·rename_i g' fs cs xs h1 h2
   split at h
   ·rename_i h3
    cases h
    exact⟨f,args,argTypes,fs,cs,xs,ho,h1,h2,h3,rfl⟩
   ·cases h
  ·cases h
 ·cases h
theorem pcallV_ok {g:FuncId} {kp:Nat} {targs ts:List TV} (h:pcallV tt te tS o=some (g,kp,targs,ts)):∃ f args argTypes fs cs xs,o.op = .call { callee := .value f,args,argTypes }∧evT te f=some (.fn g fs cs)∧evsT te args.toList=some xs∧argsP kp (argTys tt fs argTypes) (fs++xs++cs)=some targs∧(fs++xs++cs).any isRef=true∧tS[kp]? = some (.cells ts)∧refsL ts=[]:=by
 unfold pcallV at h
 split at h
 ·rename_i f args argTypes ho
  split at h
  ·rename_i g' fs cs xs h1 h2
   split at h
   ·split at h
    ·rename_i h4 h5
     split at h
     ·rename_i h6
      simp only[Bool.and_eq_true,List.isEmpty_iff] at h6
      cases h
      exact⟨f,args,argTypes,fs,cs,xs,ho,h1,h2,h4,h6.1,h5,h6.2⟩
     ·cases h
    ·cases h
   ·cases h
  ·cases h
 ·cases h
theorem pcallD_ok {g:FuncId} {kp:Nat} {targs ts:List TV} (h:pcallD tt te tS o=some (g,kp,targs,ts)):∃ f args argTypes fs cs xs off rest,o.op = .call { callee := .value f,args,argTypes }∧evT te f=some (.fn g fs cs)∧evsT te args.toList=some xs∧fs++xs++cs = .ptr kp off::rest∧rest.all pureB=true∧tS[kp]? = some (.cells ts)∧ts.all flat1=true∧targs = .ptr 0 off::normL (argTys tt fs argTypes).tail rest:=by
 unfold pcallD at h
 split at h
 ·rename_i f args argTypes ho
  split at h
  ·rename_i g' fs cs xs h1 h2
   split at h
   ·rename_i kp' off rest hl
    split at h
    ·rename_i ts' h5
     split at h
     ·rename_i h6
      simp only[Bool.and_eq_true] at h6
      cases h
      exact⟨f,args,argTypes,fs,cs,xs,off,rest,ho,h1,h2,hl,h6.1,h5,h6.2,rfl⟩
     ·cases h
    ·cases h
   ·cases h
  ·cases h
 ·cases h
theorem flatM_ok {md:Nat} {v:TV} {cs:List TV} {K:Prop} (h:flatM md v cs K):(md=2→flatR v=true∧cs.all flat1=true)∧K:=by
 unfold flatM at h
 split at h
 ·split at h
  ·rename_i h1
   simp only[Bool.and_eq_true] at h1
   exact⟨fun _=>h1,h⟩
  ·exact h.elim
 ·rename_i hn
  exact⟨fun e=>(hn e).elim,h⟩
theorem mem_cellsIx {k:Nat}:∀ {tS:List TB} {i:Nat},k∈cellsIx i tS↔i≤k∧∃ c,tS[k-i]? = some (.cells c)
 | [],i=>by simp[cellsIx]
 | b::l,i=>by
  have ih:=mem_cellsIx (k:=k) (tS:=l) (i:=i+1)
  have hs:∀ (c:List TV),i+1≤k→((b::l)[k-i]? = some (.cells c)↔l[k-(i+1)]? = some (.cells c)):=fun c h=>by
   rw[show k-i=(k-(i+1))+1 by omega,List.getElem?_cons_succ]
  cases b with
  | cells c0 =>
   simp only[cellsIx,List.mem_cons,ih]
   constructor
   ·rintro(rfl | ⟨h1,c,h2⟩)
    ·exact⟨Nat.le_refl _,c0,by simp⟩
    ·exact⟨by omega,c,(hs c h1).2 h2⟩
   ·rintro⟨h1,c,h2⟩
    by_cases e:k=i
    ·exact .inl e
    ·exact .inr ⟨by omega,c,(hs c (by omega)).1 h2⟩
  | none =>
   simp only[cellsIx,ih]
   constructor
   ·rintro⟨h1,c,h2⟩; exact⟨by omega,c,(hs c h1).2 h2⟩
   ·rintro⟨h1,c,h2⟩
    by_cases e:k=i
    ·subst e; simp at h2
    ·exact⟨by omega,c,(hs c (by omega)).1 h2⟩
  | map kt0 c0 =>
   simp only[cellsIx,ih]
   constructor
   ·rintro⟨h1,c,h2⟩; exact⟨by omega,c,(hs c h1).2 h2⟩
   ·rintro⟨h1,c,h2⟩
    by_cases e:k=i
    ·subst e; simp at h2
    ·exact⟨by omega,c,(hs c (by omega)).1 h2⟩
  | own e0 s0 =>
   simp only[cellsIx,ih]
   constructor
   ·rintro⟨h1,c,h2⟩; exact⟨by omega,c,(hs c h1).2 h2⟩
   ·rintro⟨h1,c,h2⟩
    by_cases e:k=i
    ·subst e; simp at h2
    ·exact⟨by omega,c,(hs c (by omega)).1 h2⟩
theorem ix_cells {k:Nat} {c:List TV} (h:tS[k]? = some (.cells c)):k∈cellsIx 0 tS:=mem_cellsIx.2 ⟨Nat.zero_le _,c,h⟩
theorem ix_bok:BOK (cellsIx 0 tS) tS:=fun _ hk=>(mem_cellsIx.1 hk).2
mutual
theorem rt_drop (hi:∀ k,isCells tS k=true→ι' k=ι k):∀ (v:TV) (d:DV),RT ι S v d→RT ι' S' (dropV tS v) d
 | .unk,_,_=>by simp only[dropV,RT]
 | .val _,d,k=>by cases d<;>simp only[RT,dropV] at k ⊢; exact k
 | .nils,d,k=>by cases d<;>simp only[RT,dropV] at k ⊢; exact k
 | .agg l,d,k=>by cases d<;>simp only[RT,dropV] at k ⊢; exact rtl_drop' hi l _ k
 | .tup l,d,k=>by cases d<;>simp only[RT,dropV] at k ⊢; exact rtl_drop' hi l _ k
 | .sl t l .no,d,k=>by cases d<;>simp only[RT,dropV] at k ⊢; exact k
 | .sl t l .full,d,k=>by cases d<;>simp only[RT,dropV] at k ⊢; exact k
 | .sl t l (.lab g),d,k=>by cases d<;>simp only[RT,dropV] at k ⊢; exact⟨k.1,trivial⟩
 | .ptr id off,d,k=>by
  cases d<;>simp only[RT] at k
  simp only[dropV]
  split
  ·rename_i hc
   simp only[RT]
   exact⟨(hi _ hc).trans k.1,k.2⟩
  ·simp only[RT]
 | .eptr t l i off,d,k=>by cases d<;>simp only[RT,dropV] at k ⊢; exact k
 | .mp id,d,_=>by simp only[RT,dropV]
 | .fn f a b,d,k=>by cases d<;>simp only[RT,dropV] at k ⊢; exact⟨k.1,rtl_drop' hi a _ k.2.1,rtl_drop' hi b _ k.2.2⟩
theorem rtl_drop' (hi:∀ k,isCells tS k=true→ι' k=ι k):∀ (l:List TV) (m:List DV),RTl ι S l m→RTl ι' S' (dropL tS l) m
 | [],m,k=>by rw[rtl_nil' k]; simp only[dropL]; exact rtl_nil
 | a::l,m,k=>by
  obtain⟨d,m',rfl,h1,h2⟩:=rtl_cases k
  simp only[dropL]
  exact rtl_cons (rt_drop hi a d h1) (rtl_drop' hi l m' h2)
end
def Follows (call:CallF) (g:FuncId) (A:List TV) (tS:List TB) (K:TV→List TB→Prop):Prop :=
 ∀ ι dargs S,RelT ι A tS dargs S→∃ d S' ι' v tS',call g dargs S=some (d,S')∧RelT ι' [v] tS' [d] S'∧BOK (cellsIx 0 tS) tS'∧Fr (cellsIx 0 tS) ι S ι' S'∧Nn S.length S S'∧K v tS'
theorem does_inl {f:Operand} {args:Array Operand} {argTypes:Array TypeId} {g:FuncId} {fs cs xs:List TV} {K:TV→List TB→Prop} (hop:o.op = .call { callee := .value f,args,argTypes }) (hf:evT te f=some (.fn g fs cs)) (ha:evsT te args.toList=some xs) (hr:(fs++xs++cs).any isRef=true)
  (hc:Follows call g (fs++xs++cs) tS K):Does P ty iso call yf B o nT te tS false fun v te' tS' _=>te'=dropL tS te∧K v tS':=by
 intro ι w env S nid hR hB hw hT hnd hS
 obtain⟨fs',cs',xs',k1,k2,k3⟩:=icall_args hR.env hf ha
 obtain⟨d,S',ι',v,tS',m1,m2,m3,m4,m5,m6⟩:=hc ι _ S ⟨k3,hR.cells,hR.own,hR.dom,hR.inj,hR.mp⟩
 obtain⟨w',hw'⟩:=wok_ex m2
 obtain⟨_,_,e,m7,-⟩:=rtl_cases m2.env
 cases e
 have hsub:∀ k,k∈B→k∈cellsIx 0 tS:=fun k hk=>by obtain⟨l,h1⟩:=hB k hk; exact ix_cells h1
 refine⟨d,S',ι',w',v,dropL tS te,tS',⟨none,true⟩,⟨none,true⟩,fun _ => ?_,fun e=>(by cases e),⟨fun e=>e,fun l hl=>(by cases hl)⟩,fun l m hl=>(by cases hl),⟨rtl_drop' (fun k hk => ?_) _ _ hR.env,m2.cells,m2.own,m2.dom,m2.inj,m2.mp⟩,m7,hw',fun e=>(by cases e),⟨m4.rest,m4.ours,fun k hk=>m4.base k (hsub k hk)⟩,fun k hk=>m3 k (hsub k hk),⟨m5.1,fun j hj hnone=>m5.2 j (by have:=(List.getElem?_eq_some_iff.1 hnone).1; omega) hnone⟩,rfl,m6⟩
 ·simp only[stepOp,hop,k1,k2,callD,ref_impure hr k3,Bool.false_eq_true,if_false,m1]
 ·unfold isCells at hk
  split at hk
  ·rename_i c hc; exact m4.base k (ix_cells hc)
  ·cases hk
theorem inlX_ok {md:Nat} {A:List TV} {fn:Func} {j:List (Nat×LA)} (h:inlX T md te o=some (A,fn,j)):md=0∧∃ f args argTypes g fs cs xs,o.op = .call { callee := .value f,args,argTypes }∧evT te f=some (.fn g fs cs)∧evsT te args.toList=some xs∧(fs++xs++cs).any isRef=true∧A=fs++xs++cs∧T.X g=some (fn,j):=by
 unfold inlX at h
 split at h
 ·split at h
  ·rename_i g A' h1
   split at h
   ·rename_i fn' j' h2
    cases h
    unfold inlV at h1
    split at h1
    ·rename_i f args argTypes ho
     split at h1
     ·rename_i g' fs cs xs e1 e2
      split at h1
      ·rename_i hr
       cases h1
       exact⟨rfl,f,args,argTypes,g,fs,cs,xs,ho,e1,e2,hr,rfl,h2⟩
      ·cases h1
     ·cases h1
    ·cases h1
   ·cases h
  ·cases h
 ·cases h
theorem nil_step {b:Bool} {c:Prop} (h:nilT ty te o=some (b,c)) (hc:c):(∃ op t x y u,o.op = .binOp op t x y u)∧∀ {env:List DV},RTl ι S te env→∀ nid,stepOp P ty iso call yf (evD env) o S nid=some (.val (.bool b),S):=by
 unfold nilT at h
 split at h
 ·rename_i t x y _ ho
  refine⟨⟨_,_,_,_,_,ho⟩,fun {env} hE nid => ?_⟩
  split at h
  ·rename_i h1 h2 h3
   cases h
   obtain⟨d1,k1,k2⟩:=evT_ok hE h2
   obtain⟨d2,k3,k4⟩:=evT_ok hE h3
   cases d1<;>simp only[RT] at k2
   cases d2<;>simp only[RT] at k4
   obtain⟨rfl,rfl,rfl⟩:=k4
   rename_i rows tok f
   have hr:rows.isEmpty=false:=by
    have:=rows_len k2.1
    cases rows with
    | nil=>exact absurd (List.eq_nil_of_length_eq_zero (by simpa using this.symm)) hc
    | cons=>rfl
   simp only[stepOp,ho,valOf,k1,k3,Option.bind_some,toVal,nilEqD,h1,nilD,hr,Bool.false_eq_true,if_false,Option.map_some]
  ·rename_i h1 h2 h3
   cases h
   obtain⟨d1,k1,k2⟩:=evT_ok hE h2
   obtain⟨d2,k3,k4⟩:=evT_ok hE h3
   cases d1<;>simp only[RT] at k2
   cases d2<;>simp only[RT] at k4
   obtain⟨rfl,rfl,rfl⟩:=k4
   obtain⟨rfl,rfl,rfl⟩:=k2
   simp only[stepOp,ho,valOf,k1,k3,Option.bind_some,toVal,nilEqD,h1,nilD,List.isEmpty_nil,if_true,Option.map_some]
  ·cases h
 ·cases h
theorem does_val {b:Value} (hb:∃ op t x y u,o.op = .binOp op t x y u) (h:∀ {ι:Ids} {S:Store} {env:List DV},RTl ι S te env→∀ nid,stepOp P ty iso call yf (evD env) o S nid=some (.val b,S)) (dr:Bool):Does P ty iso call yf B o nT te tS dr fun v te' tS' ft=>v = .val b∧te'=te∧tS'=tS∧ft=⟨some [],false⟩:=by
 intro ι w env S nid hR hB hw hT hn hS
 obtain⟨op,t,x,y,u,ho⟩:=hb
 refine⟨.val b,S,ι,w,.val b,te,tS,⟨some [],false⟩,⟨some [],false⟩,fun _=>h hR.env nid,fun _ => ?_,⟨id,fun l hl=>⟨[],rfl,fun j hj=>(by cases hj)⟩⟩,fun l m _ hm j hj=>(by cases hm; cases hj),hR,by simp only[RT],hw,fun _ _ _=>rfl,Fr.refl _ _ _,hB,nn_refl _ _,rfl,rfl,rfl,rfl⟩
 have:=h hR.env nid
 simp only[stepDr,ho]
 rw[this]; rfl
theorem wq_val {k:Nat} {b:Value} {Q:List TV→Prop} (ho:ops[k]? = some o) (hw:wantedT ops te o=some true) (hb:∃ op t x y u,o.op = .binOp op t x y u) (h:∀ {ι:Ids} {S:Store} {env:List DV},RTl ι S te env→∀ nid,stepOp P ty iso call yf (evD env) o S nid=some (.val b,S)) (hq:WQ P ty iso call yf ops tS (k+1) (putTV te o.dst (.val b)) Q):WQ P ty iso call yf ops tS k te Q:=by
 intro ι env S hR
 obtain⟨env',te',n1,n2,n3⟩:=hq ι (putD env o.dst (.val b)) S (rel_put hR (by simp only[RT]) _)
 refine⟨env',te',?_,n2,n3⟩
 rw[drop_op ho]
 have hs:=h hR.env S.length
 obtain⟨op,t,x,y,u,hop⟩:=hb
 have hq:quietOp P ty iso call yf (evD env) o S=some (.val b):=by
  simp only[quietOp,hop]
  rw[hs]; rfl
 simp only[runQ,wantedT_ok hR.env hw,if_true,hq,n1]
def Beh (P:Program) (ty:Tys) (iso:IsoF) (call:CallF) (yf:YldF) (B:List Nat) (ops:Array Oper) (Q:List TV→List TB→Prop) (md:Nat) (tS0:List TB) (k:Nat) (te:List TV) (tS:List TB) (fs:List Foot):Prop :=
 match md with
 | 0=>WL P ty iso call yf B ops k te tS Q
 | 1=>tS=tS0→WQ P ty iso call yf ops tS0 k te fun te=>Q te tS0
 | _=>WD P ty iso call yf B ops k te tS fs Q
theorem skip_ok {Q:List TV→List TB→Prop} {md k:Nat} {tS0:List TB} (hmd:md≤2) (ho:ops[k]? = some o) (hw:wantedT ops te o=some false) {K:KO} (hK:∀ te tS fs,K te tS fs→Beh P ty iso call yf B ops Q md tS0 (k+1) te tS fs) (h:skipK o te tS fs K):Beh P ty iso call yf B ops Q md tS0 k te tS fs:=by
 have h1:=hK _ _ _ (putK_ok (K:=fun te=>K te tS (fs++[quietF])) h)
 rcases md3 hmd with rfl | rfl | rfl
 ·exact wl_skip ho hw h1
 ·exact fun e=>wq_skip ho hw (h1 e)
 ·exact wd_skip ho hw h1
variable {inl:Inl}
def InlOK (call:CallF) (T:Tbl) (inl:Inl):Prop:=∀ g fn j A tS (K:TV→List TB→Prop),T.X g=some (fn,j)→inl fn j A tS K→Follows call g A tS K
theorem call_ok (hT:TblOK T iso call) (hI:InlOK call T inl) {Q:List TV→List TB→Prop} {md n0 k:Nat} {tS0:List TB} (hmd:md≤2) (ho:ops[k]? = some o) (hw:wantedT ops te o=some true) {K:KO} (hK:∀ te tS fs,K te tS fs→Beh P ty iso call yf B ops Q md tS0 (k+1) te tS fs)
  (hn:newB tS (nidT md n0 k tS)=true) (h:callK tt T inl md o te tS fs K):Beh P ty iso call yf B ops Q md tS0 k te tS fs:=by
 unfold callK at h
 split at h
 ·rename_i A fn j hx
  obtain⟨rfl,f,args,argTypes,g,fs1,cs1,xs,c1,c2,c3,c4,rfl,c5⟩:=inlX_ok hx
  refine wl_op ho hw (does_inl c1 c2 c3 c4 (hI g fn j _ tS _ c5 h)) ?_
  rintro v te' tS' ft ⟨rfl,hv⟩
  exact hK _ _ _ (putK_ok (K:=fun te=>K te tS' fs) (forceL_ok (dropL tS te) (K:=fun te=>putK te o.dst v fun te=>K te tS' fs) (forceV_ok v (K:=fun v=>forceL (dropL tS te) fun te=>putK te o.dst v fun te=>K te tS' fs) hv)))
 split at h
 ·rename_i g targs hc
  obtain⟨f,args,argTypes,fs1,cs1,xs,c1,c2,c3,c4,c5⟩:=callV_ok hc
  split at h
  ·rename_i p s hm hs
   have hm:md=0:=by simpa using hm
   subst hm
   obtain⟨hp,h⟩:=conj_elim h
   refine wl_op ho hw (does_ncall c1 c2 c3 c4 c5 (hT.N _ _ _ _ hs hp)) ?_
   rintro v te' tS' ft ⟨ts,hq,rfl,rfl,rfl⟩
   have e:setT tS tS.length (.cells ts)=tS++[.cells ts]:=by unfold setT; rw[if_neg (Nat.lt_irrefl _)]
   rw[e]
   exact hK _ _ _ (putK_ok (K:=fun te=>K te (tS++[.cells ts]) fs) (all_holdsN (R:=fun cs=>putK te' o.dst (.ptr tS.length 0) fun te=>K te (tS++[.cells cs]) fs) h hq))
  ·split at h
   ·rename_i p s hs
    obtain⟨hp,h⟩:=conj_elim h
    have hsp:=hT.I _ _ _ _ hs hp
    have fin:∀ v,s.holdsV v→Beh P ty iso call yf B ops Q md tS0 (k+1) (putTV te o.dst v) tS (fs++[quietF]):=fun v hv =>
     hK _ _ _ (putK_ok (K:=fun te=>K te tS (fs++[quietF])) (forceV_ok v (K:=fun v=>putK te o.dst v fun te=>K te tS (fs++[quietF])) (all_holdsV (R:=fun v=>forceV v fun v=>putK te o.dst v fun te=>K te tS (fs++[quietF])) h hv)))
    rcases md3 hmd with rfl | rfl | rfl
    ·skip
     refine wl_op ho hw (does_icall c1 c2 c3 c4 c5 hsp false) ?_
     rintro v te' tS' ft ⟨hv,rfl,rfl,-⟩
     exact fin v hv
    ·exact fun e=>wq_icall ho hw c1 c2 c3 c4 c5 hsp fun v hv=>fin v hv e
    ·skip
     refine wd_op ho hw hn (does_icall c1 c2 c3 c4 c5 hsp true) ?_
     rintro v te' tS' ft ⟨hv,rfl,rfl,rfl⟩
     exact fin v hv
   ·exact h.elim
 ·split at h
  ·rename_i g kp targs ts hc
   split at h
   ·rename_i p s hs
    obtain⟨hp,h⟩:=conj_elim h
    have hsp:=hT.C _ _ _ _ _ hs hp
    have all:∀ v cs,s.holds v cs→flatM md v cs (forceV v fun v=>putK te o.dst v fun te=>forceL cs fun cs=>forceB (tS.set kp (.cells cs)) fun tS=>K te tS (fs++[footM md kp])):=fun v cs hv =>
     all_holds (R:=fun v cs=>flatM md v cs (forceV v fun v=>putK te o.dst v fun te=>forceL cs fun cs=>forceB (tS.set kp (.cells cs)) fun tS=>K te tS (fs++[footM md kp]))) h hv
    have fin:∀ v cs,s.holds v cs→Beh P ty iso call yf B ops Q md tS0 (k+1) (putTV te o.dst v) (tS.set kp (.cells cs)) (fs++[footM md kp]):=fun v cs hv=>by
     have h1:=putK_ok (forceV_ok v (K:=fun v=>putK te o.dst v fun te=>forceL cs fun cs=>forceB (tS.set kp (.cells cs)) fun tS=>K te tS (fs++[footM md kp])) (flatM_ok (all v cs hv)).2)
     exact hK _ _ _ (forceB_ok _ (K:=fun tS=>K _ tS (fs++[footM md kp])) (forceL_ok cs (K:=fun cs=>forceB (tS.set kp (.cells cs)) fun tS=>K _ tS (fs++[footM md kp])) h1))
    rcases md3 hmd with rfl | rfl | rfl
    ·obtain⟨f,args,argTypes,fs1,cs1,xs,c1,c2,c3,c4,c5,c6,c7⟩:=pcallV_ok (tt:=tt) hc
     refine wl_op ho hw (does_pcall c1 c2 c3 c4 c5 c6 c7 hsp) ?_
     rintro v te' tS' ft ⟨ts',hv,rfl,rfl,-⟩
     exact fin v ts' hv
    ·cases hc
    ·obtain⟨f,args,argTypes,fs1,cs1,xs,off,rest,c1,c2,c3,c4,c5,c6,c7,rfl⟩:=pcallD_ok (tt:=tt) hc
     refine wd_op ho hw hn (does_pcallD (tt:=tt) c1 c2 c3 c4 c5 c6 c7 hsp fun v cs hv=>(flatM_ok (all v cs hv)).1 rfl) ?_
     rintro v te' tS' ft ⟨ts',hv,rfl,rfl,rfl⟩
     exact fin v ts' hv
   ·exact h.elim
  ·exact h.elim
theorem quiet_ok {Q:List TV→List TB→Prop} {md n0 k:Nat} {tS0:List TB} (hmd:md≤2) (ho:ops[k]? = some o) (hw:wantedT ops te o=some true) {K:KO} (hK:∀ te tS fs,K te tS fs→Beh P ty iso call yf B ops Q md tS0 (k+1) te tS fs)
  (hn:newB tS (nidT md n0 k tS)=true) {v:TV} (hb:Nb o) (hp:pureT P ty tt te tS o=some (v,True)) (h:putK te o.dst v fun te=>K te tS (fs++[quietF])):Beh P ty iso call yf B ops Q md tS0 k te tS fs:=by
 have h1:=hK _ _ _ (putK_ok (K:=fun te=>K te tS (fs++[quietF])) h)
 rcases md3 hmd with rfl | rfl | rfl
 ·skip
  refine wl_op ho hw (does_step (step_of_pure hb hp) trivial false) ?_
  rintro v' te' tS' ft ⟨rfl,rfl,rfl,-⟩
  exact h1
 ·exact fun e=>wq_pure ho hw (e▸hp) trivial (h1 e)
 ·skip
  refine wd_op ho hw hn (does_step (step_of_pure hb hp) trivial true) ?_
  rintro v' te' tS' ft ⟨rfl,rfl,rfl,rfl⟩
  rw[bin_wr hb]
  exact h1
theorem op1_ok (hT:TblOK T iso call) (hI:InlOK call T inl) {Q:List TV→List TB→Prop} {md n0 k:Nat} {tS0:List TB} (hmd:md≤2) (ho:ops[k]? = some o) (hw:wantedT ops te o=some true) {K:KO} (hK:∀ te tS fs,K te tS fs→Beh P ty iso call yf B ops Q md tS0 (k+1) te tS fs)
  (h:opK1 P ty tt T inl md n0 k o te tS fs K):Beh P ty iso call yf B ops Q md tS0 k te tS fs:=by
 unfold opK1 at h
 split at h
 ·exact h.elim
 ·rename_i hn
  split at h
  ·exact call_ok hT hI hmd ho hw hK hn h
  ·split at h
   ·rename_i v tS' c hm
    have h0:md=0:=by
     unfold mapM at hm
     split at hm
     ·rfl
     ·cases hm
    subst h0
    refine wl_op ho hw (does_map hm h.1) ?_
    rintro v' te' tS2 ft ⟨rfl,rfl,rfl⟩
    have h1:=putK_ok (forceV_ok v' (K:=fun v=>putK te' o.dst v fun te=>forceB tS2 fun tS=>K te tS (fs++[⟨none,true⟩])) h.2)
    exact hK _ _ _ (forceB_ok tS2 (K:=fun tS=>K _ tS (fs++[⟨none,true⟩])) h1)
   split at h
   ·rename_i v c ha
    exact quiet_ok hmd ho hw hK hn (arith_bin ha) (arith_pure (tt:=tt) ha h.1) h.2
   ·split at h
    ·rename_i b _ hb
     exact quiet_ok hmd ho hw hK hn (cmp_bin hb) (cmp_pure (tt:=tt) hb) h
    ·rename_i b c _ _ hb
     obtain⟨hc,h⟩:=h
     have h1:=hK _ _ _ (putK_ok (K:=fun te=>K te tS (fs++[quietF])) h)
     rcases md3 hmd with rfl | rfl | rfl
     ·refine wl_op ho hw (does_val (nil_step (P:=P) (iso:=iso) (call:=call) (yf:=yf) (ι:=noIds) (S:=[]) hb hc).1 (fun hE nid=>(nil_step hb hc).2 hE nid) false) ?_
      rintro v' te' tS' ft ⟨rfl,rfl,rfl,-⟩
      exact h1
     ·exact fun e=>wq_val ho hw (nil_step (P:=P) (iso:=iso) (call:=call) (yf:=yf) (ι:=noIds) (S:=[]) hb hc).1 (fun hE nid=>(nil_step hb hc).2 hE nid) (h1 e)
     ·refine wd_op ho hw hn (does_val (nil_step (P:=P) (iso:=iso) (call:=call) (yf:=yf) (ι:=noIds) (S:=[]) hb hc).1 (fun hE nid=>(nil_step hb hc).2 hE nid) true) ?_
      rintro v' te' tS' ft ⟨rfl,rfl,rfl,rfl⟩
      exact h1
    ·have key:md≠1→∀ q:TR,stepT P ty tt te tS o (nidT md n0 k tS)=some q→q.c→K (putTV q.te o.dst q.v) q.tS (fs++[⟨some q.foot,wrOf o⟩])→Beh P ty iso call yf B ops Q md tS0 k te tS fs:=by
      intro hm q hq hc hk
      have h1:=hK _ _ _ hk
      rcases md3 hmd with rfl | rfl | rfl
      ·skip
       refine wl_op ho hw (does_step hq hc false) ?_
       rintro v' te' tS' ft ⟨rfl,rfl,rfl,-⟩
       exact h1
      ·exact(hm rfl).elim
      ·skip
       refine wd_op ho hw hn (does_step hq hc true) ?_
       rintro v' te' tS' ft ⟨rfl,rfl,rfl,rfl⟩
       exact h1
     split at h
     ·split at h
      ·rename_i q hq
       have fin:∀ {R:Prop},q.2→K (putTV te o.dst q.1) tS (fs++[quietF])→Beh P ty iso call yf B ops Q 1 tS0 k te tS fs:=fun {_} hc hk e=>wq_pure ho hw (e▸(show pureT P ty tt te tS o=some (q.1,q.2) from hq)) hc (hK _ _ _ hk e)
       split at h
       ·exact fin (R:=True) h.1 (putK_ok (K:=fun te=>K te tS (fs++[quietF])) (forceV_ok q.1 (K:=fun v=>putK te o.dst v fun te=>K te tS (fs++[quietF])) h.2))
       ·rename_i hcond
        exact fin (R:=True) (noC_pure hcond hq) (putK_ok (K:=fun te=>K te tS (fs++[quietF])) (forceV_ok q.1 (K:=fun v=>putK te o.dst v fun te=>K te tS (fs++[quietF])) h))
      ·exact h.elim
     ·rename_i hm
      split at h
      ·rename_i q hq
       split at h
       ·refine key (fun e=>hm e) q hq h.1 ?_
        have h1:=forceL_ok q.te (forceV_ok q.v (K:=fun v=>forceL q.te fun te=>putK te o.dst v fun te=>forceB q.tS fun tS=>K te tS (fs++[⟨some q.foot,wrOf o⟩])) h.2)
        exact forceB_ok q.tS (K:=fun tS=>K _ tS _) (putK_ok h1)
       ·rename_i hcond
        refine key (fun e=>hm e) q hq (noC_step hcond hq) ?_
        have h1:=putK_ok (forceV_ok q.v (K:=fun v=>putK q.te o.dst v fun te=>forceB q.tS fun tS=>K te tS (fs++[⟨some q.foot,wrOf o⟩])) h)
        exact forceB_ok q.tS (K:=fun tS=>K _ tS _) h1
      ·exact h.elim
theorem split_ok {n:Int} {K:Nat→Prop}:∀ (c j:Nat),splitK n K c j→∃ i:Nat,n=i∧K i
 | 0,_,h=>h.elim
 | c+1,j,h=>by
  obtain⟨h1,h2⟩:=vcIf_elim h
  by_cases e:n=(j:Int)
  ·exact⟨j,e,h1 (decide_eq_true e)⟩
  ·exact split_ok c (j+1) (h2 (decide_eq_false e))
theorem arr_ok {t c:Nat} {n:Int} (h:arrT ty te o=some (t,n,c)):te[t]? = some (.val (.int .i64 n)):=by
 unfold arrT at h
 split at h
 ·split at h
  ·rename_i h1 h2; cases h; exact h2
  ·cases h
 ·split at h
  ·rename_i h1 h2; cases h; exact h2
  ·cases h
 ·cases h
theorem op_ok (hT:TblOK T iso call) (hI:InlOK call T inl) {Q:List TV→List TB→Prop} {md n0 k:Nat} {tS0:List TB} (hmd:md≤2) (ho:ops[k]? = some o) (hw:wantedT ops te o=some true) {K:KO} (hK:∀ te tS fs,K te tS fs→Beh P ty iso call yf B ops Q md tS0 (k+1) te tS fs)
  (h:opK P ty tt T inl md n0 k o te tS fs K):Beh P ty iso call yf B ops Q md tS0 k te tS fs:=by
 unfold opK at h
 split at h
 ·rename_i t n c ha
  obtain⟨i,rfl,hi⟩:=split_ok _ _ h
  have:=setK_ok te t _ hi
  rw[set_same (arr_ok ha)] at this
  exact op1_ok hT hI hmd ho hw hK this
 ·exact op1_ok hT hI hmd ho hw hK h
theorem gd_ok {b:Bool} (h:gdT ops te o = .no b):wantedT ops te o=some b:=by
 unfold gdT at h
 unfold wantedT
 split at h
 ·cases h; rename_i e; rw[e]
 ·rename_i e
  rw[e]
  dsimp only
  split at h
  ·rename_i e1
   rw[e1]
   dsimp only
   split at h
   ·cases h
   ·cases h
   ·cases h
    rename_i v hv e2
    rw[e2]
    split<;>simp_all
   ·cases h
  ·cases h; rename_i e1; rw[e1]
theorem gd_ask {d:Tmp} {b want:Bool} (h:gdT ops te o = .ask d b want):te[d]? = some (.val (.bool b))∧wantedT ops te o=some (match want with | true=>b | false => !b):=by
 unfold gdT at h
 unfold wantedT
 split at h
 ·cases h
 ·rename_i e
  rw[e]
  dsimp only
  split at h
  ·rename_i e1
   rw[e1]
   dsimp only
   split at h
   ·cases h; rename_i e2; rw[e2]; cases want<;>exact⟨rfl,rfl⟩
   ·cases h
   ·cases h
   ·cases h
  ·cases h
theorem ops_ok (hT:TblOK T iso call) (hI:InlOK call T inl) {Q:List TV→List TB→Prop} {md n0:Nat} {tS0:List TB} (hmd:md≤2) {K:KO} (hK:∀ te tS fs,K te tS fs→Beh P ty iso call yf B ops Q md tS0 ops.size te tS fs) :
  ∀ (r:List Oper) (k:Nat) (te:List TV) (tS:List TB) (fs:List Foot),ops.toList.drop k=r→vcOps P ty tt T inl md n0 ops r k te tS fs K→Beh P ty iso call yf B ops Q md tS0 k te tS fs
 | [],k,te,tS,fs,hr,h=>by
  have hk:ops.size≤k:=by
   have:=List.drop_eq_nil_iff.1 hr
   simpa using this
  have h1:=hK te tS fs h
  rcases md3 hmd with rfl | rfl | rfl
  ·intro ι env S hR hB; have:=h1 ι env S hR hB; rw[List.drop_eq_nil_of_le (by simp)] at this; rw[List.drop_eq_nil_of_le (by simpa using hk)]; exact this
  ·intro e ι env S hR; have:=h1 e ι env S hR; rw[List.drop_eq_nil_of_le (by simp)] at this; rw[List.drop_eq_nil_of_le (by simpa using hk)]; exact this
  ·skip
   intro ι w env S n0 hR hB hw hn
   have:=h1 ι w env S n0 hR hB hw (fun j hj hj'=>by omega)
   rw[List.drop_eq_nil_of_le (by simp)] at this
   rw[List.drop_eq_nil_of_le (by simpa using hk)]
   obtain⟨env',S',fs',ι',w',te',tS',ft,e1,e2,e3,e4,e5,e6,e7,e8,e9⟩:=this
   exact⟨env',S',fs',ι',w',te',tS',ft,e1,e2,fun j _=>e3 j fun i hi hi'=>by omega,e4,e5,e6,e7,⟨e8.1,fun j _ hn=>e8.2 j (fun i hi hi'=>by omega) hn⟩,e9⟩
 | o::r,k,te,tS,fs,hr,h=>by
  obtain⟨ho,hr'⟩:=get_of_drop hr
  have ih:∀ te tS fs,vcOps P ty tt T inl md n0 ops r (k+1) te tS fs K→Beh P ty iso call yf B ops Q md tS0 (k+1) te tS fs:=fun te tS fs=>ops_ok hT hI hmd hK r (k+1) te tS fs hr'.symm
  simp only[vcOps] at h
  split at h
  ·rename_i hg
   exact op_ok hT hI hmd ho (gd_ok hg) ih h
  ·rename_i hg
   exact skip_ok hmd ho (gd_ok hg) ih h
  ·rename_i d b want hg
   obtain⟨h1,h2⟩:=gd_ask hg
   split at h
   ·obtain⟨k1,k2⟩:=vcIf_elim h
    cases b with
    | true=>have:=setK_ok te d _ (k1 rfl); rw[set_same h1] at this; exact op_ok hT hI hmd ho h2 ih this
    | false=>have:=setK_ok te d _ (k2 rfl); rw[set_same h1] at this; exact skip_ok hmd ho h2 ih this
   ·obtain⟨k1,k2⟩:=vcIf_elim h
    cases b with
    | true=>have:=setK_ok te d _ (k1 rfl); rw[set_same h1] at this; exact skip_ok hmd ho h2 ih this
    | false=>have:=setK_ok te d _ (k2 rfl); rw[set_same h1] at this; exact op_ok hT hI hmd ho h2 ih this
  ·exact h.elim
end Go.Tv
end
section
namespace Go.Tv
open Go Go.Di Go.Proofs
variable {P:Program} {ty:Tys} {tt:TypeId→Option TT} {T:Tbl} {ι ι' w:Ids} {S S':Store} {te te1:List TV} {env:List DV} {tS tS1:List TB} {iso:IsoF} {call:CallF} {yf:YldF} {o:Oper} {nid nT:Nat} {B:List Nat} {r:TR} {ops:Array Oper} {fn:FuncId} {rnd:Bool} {fs:List Foot}
def LA.St:LA→Type
 | .ex α k=>(x:α)×(k x).St
 | .st _=>Unit
 | .un _=>Empty
 | .dep _=>Empty
def LA.bd:(la:LA)→la.St→Bd
 | .ex _ k,⟨x,s⟩=>(k x).bd s
 | .st b,_=>b
theorem la_some {K:Bd→Prop}:∀ {la:LA},la.some K→∃ s:la.St,K (la.bd s)
 | .ex _ k,⟨x,h⟩=>by
  obtain⟨s,h1⟩:=la_some (la:=k x) h
  exact⟨⟨x,s⟩,h1⟩
 | .st b,h=>⟨(),h⟩
 | .un _,h=>h.elim
 | .dep _,h=>h.elim
theorem la_at {K:Bd→Prop}:∀ {la:LA},la.all K→∀ s:la.St,K (la.bd s)
 | .ex _ _,h,⟨x,s⟩=>la_at (h x) s
 | .st _,h,_=>h
theorem entry_ok {b:Bd} {keep:Nat} {K:Prop} (h:entryK B b keep te tS K):Fits B (headE b.sl keep 0 te) (headS b tS) te tS∧conjE b.good∧K:=by
 obtain⟨h0,h⟩:=vcIf_no h
 simp only[Bool.and_eq_true] at h0
 obtain⟨l1,e1,k1,h⟩:=ask_elim h
 obtain⟨l2,e2,k2,h⟩:=ask_elim h
 obtain⟨h3,h4⟩:=conj_elim h
 exact⟨⟨headP_ok e1 k1,headBP_ok e2 k2,h0.1,fun k hk=>List.all_eq_true.1 h0.2 k hk⟩,h3,h4⟩
theorem back_ok {b:Bd} {K:Prop} (h:backK B te1 tS1 b te tS K):Fits B te1 tS1 te tS∧conjE b.good∧K:=by
 obtain⟨h0,h⟩:=vcIf_no h
 simp only[Bool.and_eq_true] at h0
 obtain⟨l1,e1,k1,h⟩:=ask_elim h
 obtain⟨l2,e2,k2,h⟩:=ask_elim h
 obtain⟨h3,h4⟩:=conj_elim h
 exact⟨⟨leTl_ok e1 k1,leBl_ok e2 k2,h0.1,fun k hk=>List.all_eq_true.1 h0.2 k hk⟩,h3,h4⟩
theorem un_ok {c:Code} {Q:DX→List TV→List TB→Prop} {f:List TV→List TB→(List TV→List TB→Prop)→Prop} (hf:∀ te tS K',f te tS K'→WT P ty iso call yf B LL fn rnd c te tS fun e te tS=>match e with | .normal=>K' te tS | e=>Q e te tS) :
  ∀ (n:Nat) (te:List TV) (tS:List TB),unK f n te tS→WI P ty iso call yf B LL fn rnd n c te tS Q
 | 0,_,_,h=>h.elim
 | n+1,te,tS,h=>wi_step ((hf te tS _ h).mono fun e te tS hq=>by
   cases e with
   | normal=>exact un_ok hf n te tS hq
   | exit id=>exact hq
   | ret=>exact hq)
theorem setOp_ok {x:Operand} {v:Bool} {K:List TV→Prop} (hx:evT te x=some (.val (.bool v))) (h:setOp x te v K):K te:=by
 cases x with
 | tmp t =>
  simp only[evT,Option.some.injEq] at hx
  have:=setK_ok te t _ (h:setK te t _ K)
  rwa [set_same] at this
  rw[List.getD_eq_getElem?_getD] at hx
  cases e:te[t]? with
  | none=>rw[e] at hx; cases hx
  | some a=>rw[e] at hx; exact congrArg some hx
 | _=>exact h
variable {inl:Inl}
theorem wt_region (hT:TblOK T iso call) (hI:InlOK call T inl) {id:Nat} {draw:Bool} {J:List (Nat×LA)} {i lv:Nat} {Q:DX→List TV→List TB→Prop} (h:vcC P ty tt T inl B J (.region id ops draw) i lv te tS Q):WT P ty iso call yf B LL fn rnd (.region id ops draw) te tS Q:=by
 simp only[vcC] at h
 split at h
 ·split at h
  ·rename_i hn
   obtain⟨hd,h⟩:=vcIf_no h
   refine wt_drawn hd hn ?_
   exact ops_ok (md:=2) (n0:=tS.length) (tS0:=tS) (Q:=fun te tS=>Q .normal te (trimT tS)) hT hI (by omega) (fun te tS fs hk=>by
    obtain⟨hm,hk⟩:=vcIf_no hk
    exact wd_end (Nat.le_refl _) hm (forceB_ok _ (K:=fun tS=>Q .normal te tS) hk)) ops.toList 0 te _ [] rfl (forceB_ok _ (K:=fun tS0=>vcOps P ty tt T inl 2 tS.length ops ops.toList 0 te tS0 [] fun te tS fs=>vcIf (metOk (Region.before ops) fs) (forceB (trimT tS) fun tS=>Q .normal te tS) False) h)
  ·rename_i hn
   obtain⟨hd,h⟩:=vcIf_no h
   refine wt_quiet hd hn ?_
   exact ops_ok (B:=B) (md:=1) (n0:=0) (tS0:=tS) (Q:=fun te tS=>Q .normal te tS) hT hI (by omega) (fun te tS fs hk _=>wq_end (Nat.le_refl _) hk) ops.toList 0 te _ [] rfl h rfl
 ·refine wt_plain ?_
  exact ops_ok (md:=0) (n0:=0) (tS0:=tS) (Q:=fun te tS=>Q .normal te (trimT tS)) hT hI (by omega) (fun te tS fs hk=>wl_end (Nat.le_refl _) (forceB_ok _ (K:=fun tS=>Q .normal te tS) hk)) ops.toList 0 te _ [] rfl h
theorem quietR_ok {c:Code} (h:quietR P c=some ops):loudR P ops=false∧∃ id,c = .region id ops true:=by
 unfold quietR at h
 split at h
 ·split at h
  ·cases h
  ·rename_i hl; cases h; exact⟨Bool.eq_false_iff.2 hl,_,rfl⟩
 ·cases h
theorem putD_other {env:List DV} {dst:Option Tmp} {v:DV} {i:Nat} (h:dst≠some i):(putD env dst v)[i]? = env[i]? := by
 cases dst with
 | none=>rfl
 | some d =>
  simp only[putD]
  rw[List.getElem?_set,if_neg (fun e=>h (by rw[e]))]
theorem runQ_keep {i:Nat}:∀ {l:List Oper} {env env':List DV},runQ P ty iso call yf ops S l env=some env'→(∀ o∈l,o.dst≠some i)→env'[i]? = env[i]?
 | [],env,env',h,_=>by cases h; rfl
 | o::l,env,env',h,hd=>by
  simp only[runQ] at h
  split at h
  ·split at h
   ·rw[runQ_keep h fun o' ho'=>hd o' (List.mem_cons_of_mem _ ho'),putD_other (hd o (List.mem_cons_self ..))]
   ·cases h
  ·rw[runQ_keep h fun o' ho'=>hd o' (List.mem_cons_of_mem _ ho'),putD_other (hd o (List.mem_cons_self ..))]
theorem le_one {u v:TV} {d:DV} (h:LeV u v) (hd:RT ι S v d):RT ι S u d:=by
 obtain⟨_,_,e,h1,-⟩:=rtl_cases (leL_ok (h [] [] .nil) (rtl_one hd))
 cases e
 exact h1
theorem head_quiet {sl:List (Nat×TV)} {keep:Nat}:∀ {i:Nat} {te te':List TV} {env env':List DV} {l:List Prop},RTl ι S te env→RTl ι S te' env'→te'.length=te.length→headP sl i te'=some l→conjE l→(∀ j,keep.testBit (i+j)=true→env'[j]? = env[j]?)→RTl ι S (headE sl keep i te) env'
 | _,[],[],_,_,_,_,h2,_,_,_,_=>by rw[rtl_nil' h2]; exact rtl_nil
 | i,v::te,v'::te',env,env',l,h1,h2,hn,hp,hc,hk=>by
  obtain⟨d,m,rfl,a1,a2⟩:=rtl_cases h1
  obtain⟨d',m',rfl,b1,b2⟩:=rtl_cases h2
  have hn':te'.length=te.length:=by simpa using hn
  have hk':∀ j,keep.testBit (i+1+j)=true→m'[j]? = m[j]? := fun j hj=>by
   have:=hk (j+1) (by rw[← Nat.add_assoc,Nat.add_right_comm]; exact hj)
   simpa using this
  simp only[headP] at hp
  simp only[headE]
  split at hp
  ·rename_i p hpp
   split at hp
   ·rename_i x y e1 e2
    cases hp
    obtain⟨k1,k2⟩:=conjE_app hc
    exact rtl_cons (le_one (leT_ok e1 k1) b1) (head_quiet a2 b2 hn' e2 k2 hk')
   ·cases hp
  ·refine rtl_cons ?_ (head_quiet a2 b2 hn' hp hc hk')
   split
   ·rename_i hb
    have:=hk 0 hb
    simp only[List.getElem?_cons_zero,Option.some.injEq] at this
    rw[this]; exact a1
   ·simp only[RT]
 | _,[],_::_,_,_,_,_,_,hn,_,_,_=>by simp at hn
 | _,_::_,[],_,_,_,_,_,hn,_,_,_=>by simp at hn
theorem runQ_len:∀ {l:List Oper} {env env':List DV},runQ P ty iso call yf ops S l env=some env'→env'.length=env.length
 | [],env,env',h=>by cases h; rfl
 | o::l,env,env',h=>by
  have hp:∀ (dst:Option Tmp) (v:DV),(putD env dst v).length=env.length:=fun dst v=>by cases dst<;>simp[putD]
  simp only[runQ] at h
  split at h
  ·split at h
   ·rw[runQ_len h,hp]
   ·cases h
  ·rw[runQ_len h,hp]
theorem wt_qjoin {id:Nat} {b:Code} {Q:DX→List TV→List TB→Prop} {la:LA} {keep:Nat} (hd:drawOk ops (Region.before ops)=true) (hl:loudR P ops=false) (hk:keepOk keep ops=true)
  (h1:WQ P ty iso call yf ops tS 0 te fun te'=>la.some fun bd=>ask (headP bd.sl 0 te') (conj bd.good True))
  (h2:∀ s:la.St,conjE (la.bd s).good→WT P ty iso call yf B LL fn rnd b (headE (la.bd s).sl keep 0 te) tS Q):WT P ty iso call yf B LL fn rnd (.seq (.region id ops true) b) te tS Q:=by
 intro ι env S hR hB
 obtain⟨env',te',k1,k2,k3⟩:=h1 ι env S hR
 rw[List.drop_zero] at k1
 obtain⟨s,hs⟩:=la_some k3
 obtain⟨l,e1,e2,e3⟩:=ask_elim hs
 obtain⟨e3,-⟩:=conj_elim e3
 have hR1:RelT ι (headE (la.bd s).sl keep 0 te) tS env' S:=by
  refine⟨head_quiet hR.env k2.env ?_ e1 e2 fun j hj => ?_,k2.cells,k2.own,k2.dom,k2.inj,k2.mp⟩
  ·rw[← rtl_len k2.env,← rtl_len hR.env,runQ_len k1]
  ·refine runQ_keep k1 fun o ho e => ?_
   have:=List.all_eq_true.1 hk o ho
   rw[Nat.zero_add] at hj
   rw[e] at this
   simp only[hj] at this
   cases this
 obtain⟨e,env'',S'',ι'',te'',tS'',m1,m2,m3,m4,m5,m6⟩:=h2 s e3 ι env' S hR1 hB
 refine⟨e,env'',S'',ι'',te'',tS'',?_,m2,m3,m4,m5,m6⟩
 have:codeD P ty iso call yf LL fn rnd (.region id ops true) env S=some (.normal,env',S):=by
  simp only[loudR,Bool.or_eq_false_iff] at hl; simp only[codeD,regionD,if_true,hd,hl.2,Bool.not_true,Bool.false_eq_true,if_false,k1,Option.map_some]
 rw[codeD,this]
 exact m1
theorem vc_ok (hT:TblOK T iso call) (hI:InlOK call T inl) {J:List (Nat×LA)}:∀ (c:Code) (i lv:Nat) (te:List TV) (tS:List TB) (Q:DX→List TV→List TB→Prop),vcC P ty tt T inl B J c i lv te tS Q→WT P ty iso call yf B LL fn rnd c te tS Q
 | .skip,_,_,_,_,_,h=>wt_skip h
 | .label _,_,_,_,_,_,h=>wt_label h
 | .exit _,_,_,_,_,_,h=>wt_exit h
 | .ret,_,_,_,_,_,h=>wt_ret h
 | .scope c,i,lv,te,tS,Q,h=>wt_scope (vc_ok hT hI c i lv te tS Q h)
 | .block id c,i,lv,te,tS,Q,h=>by
  refine wt_block ((vc_ok hT hI c i lv te tS _ h).mono fun e te tS hq => ?_)
  cases e with
  | normal=>exact hq
  | ret=>exact hq
  | exit id' =>
   dsimp only at hq ⊢
   split<;>simp_all
 | .cond x a b,i,lv,te,tS,Q,h=>by
  simp only[vcC] at h
  split at h
  ·rename_i t hx
   obtain⟨h1,h2⟩:=vcIf_elim h
   refine wt_cond hx (fun e => ?_) (fun e => ?_)
   ·subst e; exact vc_ok hT hI a i lv te tS Q (setOp_ok hx (h1 rfl))
   ·subst e; exact vc_ok hT hI b (i+cnt a) lv te tS Q (setOp_ok hx (h2 rfl))
  ·exact h.elim
 | .seq a b,i,lv,te,tS,Q,h=>by
  simp only[vcC] at h
  split at h
  ·rename_i la _
   split at h
   ·rename_i ops hq
    obtain⟨h1,h2⟩:=h
    obtain⟨hl,id,rfl⟩:=quietR_ok hq
    obtain⟨h0,h1⟩:=vcIf_no h1
    simp only[Bool.and_eq_true] at h0
    refine wt_qjoin (la:=la) h0.1 hl h0.2 ?_ fun s hg=>vc_ok hT hI b _ lv _ _ Q (forceL_ok _ (impl_elim (la_at h2 s) hg))
    exact ops_ok (B:=B) (md:=1) (n0:=0) (tS0:=tS) (Q:=fun te' _=>la.some fun bd=>ask (headP bd.sl 0 te') (conj bd.good True)) hT hI (by omega) (fun te' tS' fs hk _=>wq_end (Nat.le_refl _) hk) ops.toList 0 te _ [] rfl h1 rfl
   obtain⟨h1,h2⟩:=h
   refine wt_join (fun s:la.St=>(headE (la.bd s).sl ((lv ||| uses b) &&& (2 ^ 400-1-(defs a))) 0 te,headS (la.bd s) tS)) (fun s=>conjE (la.bd s).good) ((vc_ok hT hI a (i+1) (lv ||| uses b) te tS _ h1).mono fun e te' tS' hq => ?_) fun s hg=>vc_ok hT hI b (i+1+cnt a) lv _ _ Q (forceB_ok _ (forceL_ok _ (impl_elim (la_at h2 s) hg)))
   cases e with
   | normal =>
    obtain⟨s,hs⟩:=la_some hq
    obtain⟨k1,k2,-⟩:=back_ok hs
    exact⟨s,k1,k2⟩
   | exit id=>exact hq
   | ret=>exact hq
  ·refine wt_seq ((vc_ok hT hI a (i+1) (lv ||| uses b) te tS _ h).mono fun e te tS hq => ?_)
   cases e with
   | normal=>exact vc_ok hT hI b _ _ te tS Q hq
   | exit id=>exact hq
   | ret=>exact hq
 | .loop c,i,lv,te,tS,Q,h=>by
  simp only[vcC] at h
  split at h
  ·refine wt_unroll (by unfold LL; omega) (un_ok (fun te tS K' hf=>(vc_ok hT hI c _ _ te tS _ hf).mono fun e te tS hq => ?_) _ te tS h)
   cases e with
   | normal=>exact hq
   | exit id=>exact hq
   | ret=>exact hq
  ·rename_i la _ _
   obtain⟨h1,h2⟩:=h
   obtain⟨s0,h1⟩:=la_some h1
   obtain⟨k1,k2,k3⟩:=entry_ok h1
   refine wt_loop (fun s:la.St=>(headE (la.bd s).sl ((lv ||| uses c) &&& (2 ^ 400-1-(defs c))) 0 te,headS (la.bd s) tS)) (fun s=>conjE (la.bd s).good) (fun s=>(la.bd s).m) s0 k1 k2 k3 fun s hg=>(vc_ok hT hI c (i+1) (lv ||| uses c) _ _ _ (forceB_ok _ (forceL_ok _ (impl_elim (la_at h2 s) hg)))).mono fun e te' tS' hq => ?_
   cases e with
   | normal =>
    obtain⟨s',hs⟩:=la_some hq
    obtain⟨k1,k2,k3⟩:=back_ok hs
    exact⟨s',k1,k2,k3⟩
   | exit id=>exact hq
   | ret=>exact hq
  ·exact h.elim
 | .region id ops draw,i,lv,te,tS,Q,h=>wt_region hT hI h
 | .rangeFunc ..,_,_,_,_,_,h=>(by simp only[vcC] at h)
 | .goto _,_,_,_,_,_,h=>(by simp only[vcC] at h)
 | .refuse _,_,_,_,_,_,h=>(by simp only[vcC] at h)
theorem sp_mono {K K':TV→List TV→List Prop→Prop} (hK:∀ v cs f,K v cs f→K' v cs f):∀ {s:SpT},s.some K→s.some K'
 | .ex _ k,⟨x,h⟩=>⟨x,sp_mono (s:=k x) hK h⟩
 | .res _ _ _,h=>hK _ _ _ h
theorem end_f {F:List TV→List TB→Prop} {E:DX→List TV→List TB→Prop} (h1:∀ te tS,F te tS→E .normal te tS∧E .ret te tS):∀ {e:DX} {te:List TV} {tS:List TB},endF F e te tS→E e te tS
 | .normal,_,_,h=>(h1 _ _ h).1
 | .ret,_,_,h=>(h1 _ _ h).2
 | .exit _,_,_,h=>h.elim
theorem fin_i {rs:List ResultVar} {rts:List (Option TT)} {s:SpT} (h:finI ty rs rts s te tS):EndI ty rs rts (fun v=>s.holdsV v) .normal te tS∧EndI ty rs rts (fun v=>s.holdsV v) .ret te tS:=by
 unfold finI at h
 split at h
 ·rename_i vs hv
  obtain⟨h0,h⟩:=vcIf_no h
  simp only[Bool.and_eq_true,List.isEmpty_iff] at h0
  have:∃ vs,resT ty te tS rs=some vs∧vs.all pureB=true∧refs (oneV (normL rts vs))=[]∧s.holdsV (oneV (normL rts vs)):=by
   refine⟨vs,hv,h0.1,h0.2,sp_mono (fun v cs f hk => ?_) h⟩
   obtain⟨l,h1,h2,h3⟩:=ask_elim hk
   exact⟨eqT_ok h1 h2,h3⟩
  exact⟨⟨trivial,this⟩,trivial,this⟩
 ·exact h.elim
theorem fin_c {rs:List ResultVar} {rts cts:List (Option TT)} {s:SpT} (h:finC ty rs rts cts s te tS):EndC ty rs rts cts (fun v cs=>s.holds v cs) .normal te tS∧EndC ty rs rts cts (fun v cs=>s.holds v cs) .ret te tS:=by
 unfold finC at h
 split at h
 ·rename_i vs ts l hv
  obtain⟨h0,h⟩:=vcIf_no h
  simp only[Bool.and_eq_true,List.isEmpty_iff] at h0
  have:s.holds (oneV (normL rts vs)) (normL cts ts):=by
   refine sp_mono (fun v cs f hk => ?_) h
   obtain⟨l,h1,h2,hk⟩:=ask_elim hk
   obtain⟨l',h3,h4,h5⟩:=ask_elim hk
   exact⟨eqT_ok h1 h2,eqL_ok h3 h4,h5⟩
  exact⟨⟨trivial,vs,ts,hv,h0.1.1,h0.1.2,rfl,h0.2.1,h0.2.2,this⟩,trivial,vs,ts,hv,h0.1.1,h0.1.2,rfl,h0.2.1,h0.2.2,this⟩
 ·exact h.elim
theorem fin_n {rs:List ResultVar} {cts:List (Option TT)} {s:SpT} (h:finN ty rs cts s te tS):EndN ty rs cts (fun cs=>s.holdsN cs) .normal te tS∧EndN ty rs cts (fun cs=>s.holdsN cs) .ret te tS:=by
 unfold finN at h
 split at h
 ·rename_i ts l hv
  obtain⟨h0,h⟩:=vcIf_no h
  simp only[Bool.and_eq_true,List.isEmpty_iff] at h0
  have:s.holdsN (normL cts ts):=by
   refine sp_mono (fun v cs f hk => ?_) h
   obtain⟨l',h3,h4,h5⟩:=ask_elim hk
   exact⟨eqL_ok h3 h4,h5⟩
  exact⟨⟨trivial,ts,hv,rfl,h0.1,h0.2,this⟩,trivial,ts,hv,rfl,h0.1,h0.2,this⟩
 ·exact h.elim
theorem one_rt:∀ {vs:List TV} {ds:List DV},RTl ι S vs ds→RT ι S (oneV vs) (oneOf ds)
 | [],ds,h=>by rw[rtl_nil' h]; simp only[oneV,oneOf,RT]; exact rtl_nil
 | [v],ds,h=>by
  obtain⟨d,m',rfl,h1,h2⟩:=rtl_cases h
  rw[rtl_nil' h2]; exact h1
 | v::u::l,ds,h=>by
  obtain⟨d,m',rfl,h1,h2⟩:=rtl_cases h
  obtain⟨d',m'',rfl,h3,h4⟩:=rtl_cases h2
  simp only[oneV,oneOf,RT]
  exact rtl_cons h1 (rtl_cons h3 h4)
def XOK (P:Program) (T:Tbl):Prop:=∀ g fn j,T.X g=some (fn,j)→P.funcs[g]? = some fn∧fn.body.isSome=true
def Lev (P:Program) (ty:Tys) (T:Tbl):Nat→IsoF→CallF→Prop
 | 0,iso,call=>TblOK T iso call
 | d+1,iso,call=>TblOK T iso call∧∃ iso' call' yf',(∀ g fn,P.funcs[g]? = some fn→∀ a S,call g a S=bodyD P ty iso' call' yf' LL g fn a S)∧Lev P ty T d iso' call'
theorem lev_tbl {d:Nat} (h:Lev P ty T d iso call):TblOK T iso call:=by
 cases d with
 | zero=>exact h
 | succ d=>exact h.1
theorem inl_ok (hX:XOK P T):∀ (d:Nat) {iso:IsoF} {call:CallF},Lev P ty T d iso call→InlOK call T (inlD P ty tt T d)
 | 0,_,_,_=>fun _ _ _ _ _ _ _ h=>h.elim
 | d+1,iso,call,hL=>by
  obtain⟨-,iso',call',yf',hb,hL'⟩:=hL
  intro g fn j A tS K hx hi ι dargs S hR
  obtain⟨hf,hs⟩:=hX g fn j hx
  have hw:=vc_ok (fn:=g) (rnd:=false) (yf:=yf') (lev_tbl hL') (inl_ok hX d hL') _ _ _ _ _ _ (forceL_ok _ hi)
  have hlen:=rtl_len hR.env
  have hR':RelT ι (padT fn.ntmps A) tS (dargs++List.replicate (fn.ntmps-dargs.length) dundef) S :=
   ⟨rtl_append hR.env (by rw[hlen]; exact rtl_rep _ _),hR.cells,hR.own,hR.dom,hR.inj,hR.mp⟩
  obtain⟨e,env',S',ι',te',tS',h1,h2,h3,h4,h5,h6⟩:=hw ι _ S hR' ix_bok
  have key:finX ty fn.results.toList K te' tS'→(e = .normal∨e = .ret)→∃ d S' ι' v tS',call g dargs S=some (d,S')∧RelT ι' [v] tS' [d] S'∧BOK (cellsIx 0 tS) tS'∧Fr (cellsIx 0 tS) ι S ι' S'∧Nn S.length S S'∧K v tS':=by
   intro hk he
   unfold finX at hk
   split at hk
   ·rename_i vs hv
    obtain⟨ds,k1,k2⟩:=resT_ok h2 hv
    refine⟨oneOf ds,S',ι',oneV vs,tS',?_,⟨rtl_one (one_rt k2),h2.cells,h2.own,h2.dom,h2.inj,h2.mp⟩,h3,h4,h5,hk⟩
    rw[hb g fn hf]
    unfold bodyC at h1
    simp only[bodyD]
    cases hc:fn.body with
    | none=>rw[hc] at hs; cases hs
    | some c =>
     rw[hc] at h1
     simp only[Option.getD_some] at h1
     simp only[h1]
     rcases he with rfl | rfl<;>simp only[k1,Option.map_some]
   ·exact hk.elim
  cases e with
  | normal=>exact key h6 (.inl rfl)
  | ret=>exact key h6 (.inr rfl)
  | exit id=>exact h6.elim
def vcI (T:Tbl) (d:Nat) (f:Func) (rts:List (Option TT)) (J:List (Nat×LA)) (a:List TV) (s:SpT):Prop:=forceL (padT f.ntmps a) fun te=>vcC Tp Ty ttb T (inlD Tp Ty ttb T d) [] J (bodyC f) 0 (resMask f.results.toList) te [] (endF (finI Ty f.results.toList rts s))
def vcCC (T:Tbl) (d:Nat) (f:Func) (rts cts:List (Option TT)) (J:List (Nat×LA)) (a cs:List TV) (s:SpT):Prop:=forceL (padT f.ntmps a) fun te=>vcC Tp Ty ttb T (inlD Tp Ty ttb T d) [0] J (bodyC f) 0 (resMask f.results.toList) te [.cells cs] (endF (finC Ty f.results.toList rts cts s))
def vcN (T:Tbl) (d:Nat) (f:Func) (cts:List (Option TT)) (J:List (Nat×LA)) (a:List TV) (s:SpT):Prop:=forceL (padT f.ntmps a) fun te=>vcC Tp Ty ttb T (inlD Tp Ty ttb T d) [] J (bodyC f) 0 (resMask f.results.toList) te [] (endF (finN Ty f.results.toList cts s))
def TOK (tab:IsoF) (k:Nat) (T:Tbl):Prop:=XOK Tp T∧∀ n,TblOK T (isoT tab (n+k)) (callT' tab (n+k))
def Tbl.addI (T:Tbl) (f:FuncId) (S:List TV→Sp):Tbl:={ T with I:=fun g a=>if g=f then S a else T.I g a }
def Tbl.addC (T:Tbl) (f:FuncId) (S:List TV→List TV→Sp):Tbl:={ T with C:=fun g a c=>if g=f then S a c else T.C g a c }
def Tbl.addN (T:Tbl) (f:FuncId) (S:List TV→Sp):Tbl:={ T with N:=fun g a=>if g=f then S a else T.N g a }
def Tbl.addX (T:Tbl) (f:FuncId) (fn:Func) (j:List (Nat×LA)):Tbl:={ T with X:=fun g=>if g=f then some (fn,j) else T.X g }
variable {tab:IsoF} {k:Nat}
theorem tok_up (h:TOK tab k T):TOK tab (k+1) T:=⟨h.1,fun n=>by have:=h.2 (n+1); rwa [Nat.add_right_comm,Nat.add_assoc] at this⟩
theorem lev_tok (h:TOK tab k T):∀ (d n:Nat),Lev Tp Ty T d (isoT tab (n+(k+d))) (callT' tab (n+(k+d)))
 | 0,n=>h.2 n
 | d+1,n=>by
  refine⟨?_,isoT tab (n+(k+d)),callT' tab (n+(k+d)),yfT tab (n+(k+d)),fun g fn hf a S => ?_,lev_tok h d n⟩
  ·have:=h.2 (n+(d+1)); rwa [Nat.add_assoc,Nat.add_comm (d+1) k] at this
  ·rw[show n+(k+(d+1))=(n+(k+d))+1 by omega]
   simp only[callN,deepP,hf]
   rfl
theorem tok_i {f:FuncId} {S:List TV→Sp} (hT:TOK tab k T) (h:∀ n a p s,S a=some (p,s)→conjE p→ISpec (isoT tab (n+k)) f a fun v=>s.holdsV v):TOK tab k (T.addI f S):=⟨hT.1,fun n=>⟨fun g a p s hs hp=>by
 simp only[Tbl.addI] at hs
 split at hs
 ·rename_i e; subst e; exact h n a p s hs hp
 ·exact(hT.2 n).I g a p s hs hp,(hT.2 n).C,(hT.2 n).N⟩⟩
theorem tok_c {f:FuncId} {S:List TV→List TV→Sp} (hT:TOK tab k T) (h:∀ n a cs p s,S a cs=some (p,s)→conjE p→CSpec (callT' tab (n+k)) f a cs fun v cs=>s.holds v cs):TOK tab k (T.addC f S):=⟨hT.1,fun n=>⟨(hT.2 n).I,fun g a cs p s hs hp=>by
 simp only[Tbl.addC] at hs
 split at hs
 ·rename_i e; subst e; exact h n a cs p s hs hp
 ·exact(hT.2 n).C g a cs p s hs hp,(hT.2 n).N⟩⟩
theorem tok_n {f:FuncId} {S:List TV→Sp} (hT:TOK tab k T) (h:∀ n a p s,S a=some (p,s)→conjE p→NSpec (isoT tab (n+k)) (callT' tab (n+k)) f a fun cs=>s.holdsN cs):TOK tab k (T.addN f S):=⟨hT.1,fun n=>⟨(hT.2 n).I,(hT.2 n).C,fun g a p s hs hp=>by
 simp only[Tbl.addN] at hs
 split at hs
 ·rename_i e; subst e; exact h n a p s hs hp
 ·exact(hT.2 n).N g a p s hs hp⟩⟩
def T0:Tbl where
 I:=fun g a=>match g,a with
  | 13,[]=>some ([],.res (bval true) [] [])
  | _,_=>none
 C:=fun _ _ _=>none
 N:=fun _ _=>none
theorem tok_0 (tk:TabK tab):TOK tab 0 T0:=by
 refine⟨fun _ _ _ h=>(by cases h),fun n=>⟨fun g a p s hs _ => ?_,fun _ _ _ _ _ hs=>(by cases hs),fun _ _ _ _ hs=>(by cases hs)⟩⟩
 simp only[T0] at hs
 split at hs
 ·cases hs
  intro dargs hd
  rw[rtl_nil' hd]
  refine⟨.val (.bool true),bval true,?_,rfl,by simp only[RT],rfl,rfl,trivial⟩
  simp only[isoN,isoOf,tk.fit,DV.pure,DV.pure2,if_true]
 ·cases hs
end Go.Tv
end
section
namespace Go.Tv
open Go Go.Di Go.Proofs
abbrev Dn := Option (List Prop × SpT × List (Nat × LA))
def dS (d : Dn) : Sp := d.map fun x => (x.1, x.2.1)
def dJ (d : Dn) : List (Nat × LA) := match d with
 | some x => x.2.2
 | none => []
def VI (T : Tbl) (f : Func) (rts : List (Option TT)) (D : List TV → Dn) (d : Nat := 0) : Prop := ∀ a p s j, D a = some (p, s, j) → conjE p → vcI T d f rts j a s
def VC (T : Tbl) (f : Func) (rts cts : List (Option TT)) (D : List TV → List TV → Dn) (d : Nat := 0) : Prop := ∀ a cs p s j, D a cs = some (p, s, j) → conjE p → vcCC T d f rts cts j a cs s
def VN (T : Tbl) (f : Func) (cts : List (Option TT)) (D : List TV → Dn) (d : Nat := 0) : Prop := ∀ a p s j, D a = some (p, s, j) → conjE p → vcN T d f cts j a s
def dV (d : Dn) (K : SpT → List (Nat × LA) → Prop) : Prop :=
 match d with
 | some (p, s, j) => conjE p → K s j
 | none => True
structure Hd (p : Prop) : Prop where
 h : p
theorem vcq {A B : Prop} (h : A = B) (a : A) : Hd B := ⟨h ▸ a⟩
theorem vi_of {T : Tbl} {f : Func} {rts : List (Option TT)} {D : List TV → Dn} {d : Nat} (h : ∀ a, dV (D a) fun s j => Hd (vcI T d f rts j a s)) : VI T f rts D d := fun a p s j hd hp => by
 have := h a
 rw [hd] at this
 exact (this hp).h
theorem d_some {d : Dn} {p : List Prop} {s : SpT} (h : dS d = some (p, s)) : d = some (p, s, dJ d) := by
 cases d with
 | none => cases h
 | some x => cases h; rfl
variable {tab : IsoF} {k : Nat} {T : Tbl}
theorem body_some {fn : Func} (hb : fn.body.isSome = true) : fn.body = some (bodyC fn) := by unfold bodyC; revert hb; cases fn.body <;> simp
theorem mkI (tk : TabK tab) (hT : TOK tab k T) {f : FuncId} {fn : Func} {rts : List (Option TT)} {D : List TV → Dn} {d : Nat} (hne : f ≠ 33 ∧ f ≠ 83 ∧ f ≠ 13 ∧ f ≠ 67 ∧ f ≠ 0) (hf : Tp.funcs[f]? = some fn) (hb : fn.body.isSome = true) (h : VI T fn rts D d) {T' : Tbl} (hT' : TOK tab (k + d + 1) T') : TOK tab (k + d + 1) (T'.addI f fun a => dS (D a)) :=
 tok_i hT' fun n a p s hs hp => ispec_of (n := n + (k + d)) hf (body_some hb) (fun _ => tk.other _ _ hne.1 hne.2.1 hne.2.2.1 hne.2.2.2.1 hne.2.2.2.2) ((vc_ok (lev_tbl (lev_tok hT d n)) (inl_ok hT.1 d (lev_tok hT d n)) _ _ _ _ _ _ (forceL_ok _ (h a p s _ (d_some hs) hp))).mono fun _ _ _ hq => end_f (fun _ _ => fin_i) hq)
theorem mkC (hT : TOK tab k T) {f : FuncId} {fn : Func} {rts cts : List (Option TT)} {D : List TV → List TV → Dn} {d : Nat} (hf : Tp.funcs[f]? = some fn) (hb : fn.body.isSome = true) (h : VC T fn rts cts D d) {T' : Tbl} (hT' : TOK tab (k + d + 1) T') : TOK tab (k + d + 1) (T'.addC f fun a c => dS (D a c)) :=
 tok_c hT' fun n a cs p s hs hp => cspec_of (n := n + (k + d)) hf (body_some hb) ((vc_ok (lev_tbl (lev_tok hT d n)) (inl_ok hT.1 d (lev_tok hT d n)) _ _ _ _ _ _ (forceL_ok _ (h a cs p s _ (d_some hs) hp))).mono fun _ _ _ hq => end_f (fun _ _ => fin_c) hq)
theorem mkN (tk : TabK tab) (hT : TOK tab k T) {f : FuncId} {fn : Func} {cts : List (Option TT)} {D : List TV → Dn} {d : Nat} (hne : f ≠ 33 ∧ f ≠ 83 ∧ f ≠ 13 ∧ f ≠ 67 ∧ f ≠ 0) (hf : Tp.funcs[f]? = some fn) (hb : fn.body.isSome = true) (h : VN T fn cts D d) {T' : Tbl} (hT' : TOK tab (k + d + 1) T') : TOK tab (k + d + 1) (T'.addN f fun a => dS (D a)) :=
 tok_n hT' fun n a p s hs hp => nspec_of (n := n + (k + d)) hf (body_some hb) (fun _ => tk.other _ _ hne.1 hne.2.1 hne.2.2.1 hne.2.2.2.1 hne.2.2.2.2) ((vc_ok (lev_tbl (lev_tok hT d n)) (inl_ok hT.1 d (lev_tok hT d n)) _ _ _ _ _ _ (forceL_ok _ (h a p s _ (d_some hs) hp))).mono fun _ _ _ hq => end_f (fun _ _ => fin_n) hq)
def nilE (α : Type) : Prop := ([] : List α) = []
theorem nil_e {α : Type} : nilE α = True := by simp [nilE]
theorem vcp {A B : Prop} (h : A = B) (a : A) : B := h ▸ a
theorem vc_iff {b : Bool} {A B : Prop} : vcIf b A B ↔ (b = true → A) ∧ (b = false → B) := by cases b <;> simp [vcIf]
theorem vc_dec {p : Prop} [Decidable p] {A B : Prop} : vcIf (decide p) A B ↔ (p → A) ∧ (¬p → B) := by rw [vc_iff]; simp
theorem vc_not {b : Bool} {A B : Prop} : vcIf (!b) A B ↔ vcIf b B A := by cases b <;> rfl
theorem vc_beq {a c : Int} {A B : Prop} : vcIf (a == c) A B ↔ (a = c → A) ∧ (¬a = c → B) := by rw [vc_iff]; simp
theorem vc_bne {a c : Int} {A B : Prop} : vcIf (a != c) A B ↔ (a = c → B) ∧ (¬a = c → A) := by rw [vc_iff]; simp [and_comm]
end Go.Tv
end
