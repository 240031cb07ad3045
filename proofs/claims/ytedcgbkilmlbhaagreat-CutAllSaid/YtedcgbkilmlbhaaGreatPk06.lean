import Derived.Test.YtedcgbkilmlbhaaGreatPk05
section
namespace Go.Tv
open Go Go.Di Go.Proofs
theorem vcIf_elim {b:Bool} {A B:Prop} (h:vcIf b A B):(b=true→A)∧(b=false→B):=by cases b<;>exact⟨fun e=>by cases e<;>exact h,fun e=>by cases e<;>exact h⟩
theorem vcIf_no {b:Bool} {A:Prop} (h:vcIf b A False):b=true∧A:=by
 cases b
 ·exact h.elim
 ·exact⟨rfl,h⟩
theorem conjE_iff:∀ {l:List Prop},conjE l↔∀ p∈l,p
 | []=>by simp[conjE]
 | p::l=>by
  have:=conjE_iff (l:=l)
  simp only[conjE,this,List.mem_cons,forall_eq_or_imp]
theorem conj_elim:∀ {l:List Prop} {R:Prop},conj l R→conjE l∧R
 | [],_,h=>⟨trivial,h⟩
 | p::l,R,h=>by
  obtain⟨h1,h2⟩:=conj_elim h.2
  exact⟨conjE_iff.2 (by rintro q hq; rcases List.mem_cons.1 hq with rfl | hq; exact h.1; exact conjE_iff.1 h1 q hq),h2⟩
theorem conjE_app {l m:List Prop} (h:conjE (l++m)):conjE l∧conjE m:=by
 rw[conjE_iff] at h
 exact⟨conjE_iff.2 fun p hp=>h p (List.mem_append_left _ hp),conjE_iff.2 fun p hp=>h p (List.mem_append_right _ hp)⟩
theorem impl_elim:∀ {l:List Prop} {R:Prop},impl l R→conjE l→R
 | [],_,h,_=>h
 | p::l,R,h,k=>by
  rw[conjE_iff] at k
  exact impl_elim (h (k p (List.mem_cons_self ..))) (conjE_iff.2 fun q hq=>k q (List.mem_cons_of_mem _ hq))
theorem ask_elim {o:Option (List Prop)} {K:Prop} (h:ask o K):∃ l,o=some l∧conjE l∧K:=by
 cases o with
 | none=>exact h.elim
 | some l=>exact⟨l,rfl,conj_elim h⟩
theorem sp_all {R K:TV→List TV→List Prop→Prop}:∀ {s:SpT},s.all R→s.some K→∃ v cs fs,R v cs fs∧K v cs fs
 | .ex _ _,h,⟨x,k⟩=>sp_all (h x) k
 | .res v cs fs,h,k=>⟨v,cs,fs,h,k⟩
theorem all_holds {R:TV→List TV→Prop} {v:TV} {cs:List TV} {s:SpT} (h:s.all fun v cs fs=>impl fs (R v cs)) (k:s.holds v cs):R v cs:=by
 obtain⟨v',cs',fs,h,rfl,rfl,hf⟩:=sp_all h k
 exact impl_elim h hf
theorem all_holdsV {R:TV→Prop} {v:TV} {s:SpT} (h:s.all fun v _ fs=>impl fs (R v)) (k:s.holdsV v):R v:=by
 obtain⟨v',cs',fs,h,rfl,hf⟩:=sp_all h k
 exact impl_elim h hf
theorem all_holdsN {R:List TV→Prop} {cs:List TV} {s:SpT} (h:s.all fun _ cs fs=>impl fs (R cs)) (k:s.holdsN cs):R cs:=by
 obtain⟨v',cs',fs,h,rfl,hf⟩:=sp_all h k
 exact impl_elim h hf
mutual
theorem forceV_ok:∀ (v:TV) {K:TV→Prop},forceV v K→K v
 | .unk,_,h=>h
 | .val v,_,h=>by cases v<;>exact h
 | .nils,_,h=>h
 | .agg l,K,h=>by simp only[forceV] at h; exact forceL_ok l (K:=fun l=>K (.agg l)) h
 | .tup l,K,h=>by simp only[forceV] at h; exact forceL_ok l (K:=fun l=>K (.tup l)) h
 | .sl _ _ _,_,h=>h
 | .ptr _ _,_,h=>h
 | .eptr _ _ _ _,_,h=>h
 | .fn f a b,K,h=>by simp only[forceV] at h; exact forceL_ok b (K:=fun b=>K (.fn f a b)) (forceL_ok a (K:=fun a=>forceL b fun b=>K (.fn f a b)) h)
theorem forceL_ok:∀ (l:List TV) {K:List TV→Prop},forceL l K→K l
 | [],_,h=>h
 | a::l,K,h=>forceL_ok l (K:=fun l=>K (a::l)) (forceV_ok a (K:=fun a=>forceL l fun l=>K (a::l)) h)
end
theorem forceB_ok:∀ (l:List TB) {K:List TB→Prop},forceB l K→K l
 | [],_,h=>h
 | .cells c::l,K,h=>forceB_ok l (K:=fun l=>K (.cells c::l)) (forceL_ok c (K:=fun c=>forceB l fun l=>K (.cells c::l)) h)
 | .none::l,K,h=>forceB_ok l (K:=fun l=>K (.none::l)) h
 | .own e s::l,K,h=>forceB_ok l (K:=fun l=>K (.own e s::l)) h
theorem setK_ok:∀ (l:List TV) (n:Nat) (v:TV) {K:List TV→Prop},setK l n v K→K (l.set n v)
 | [],_,_,_,h=>h
 | _::_,0,_,_,h=>h
 | a::l,n+1,v,K,h=>setK_ok l n v (K:=fun l=>K (a::l)) h
theorem putK_ok {te:List TV} {dst:Option Tmp} {v:TV} {K:List TV→Prop} (h:putK te dst v K):K (putTV te dst v):=by
 cases dst with
 | none=>exact h
 | some d=>exact setK_ok te d v h
theorem set_same:∀ {l:List TV} {n:Nat} {v:TV},l[n]? = some v→l.set n v=l
 | [],_,_,h=>by simp at h
 | _::_,0,_,h=>by simp only[List.getElem?_cons_zero,Option.some.injEq] at h; rw[h]; rfl
 | a::l,n+1,v,h=>by rw[List.set_cons_succ,set_same (l:=l) (by simpa using h)]
mutual
theorem eqT_ok:∀ {a b:TV} {l:List Prop},eqT a b=some l→conjE l→a=b
 | a,b,l,h,k=>by
  unfold eqT at h
  split at h
  ·rfl
  ·split at h
   ·rename_i hk
    subst hk
    cases h
    rw[show _=_ from k.1]
   ·cases h
  ·cases h; rw[show _=_ from k.1]
  ·cases h; rw[show _=_ from k.1]
  ·rfl
  ·rw[eqL_ok h k]
  ·rw[eqL_ok h k]
  ·split at h
   ·rename_i ht; subst ht; cases h; cases (show _=_ from k.1); rfl
   ·cases h
  ·split at h
   ·rename_i ht; subst ht; cases h; cases (show _=_ from k.1); rfl
   ·cases h
  ·split at h
   ·rename_i ht
    subst ht
    split at h
    ·rename_i hg; subst hg; cases h; cases (show _=_ from k.1); rfl
    ·cases h
   ·cases h
  ·split at h
   ·rename_i ht; obtain⟨rfl,rfl⟩:=ht; rfl
   ·cases h
  ·split at h
   ·rename_i ht
    subst ht
    cases h
    obtain⟨k1,k2,k3⟩:=k
    cases (show _=_ from k1); cases (show _=_ from k2); cases (show _=_ from k3.1); rfl
   ·cases h
  ·split at h
   ·rename_i hf
    subst hf
    split at h
    ·rename_i x y h1 h2
     cases h
     obtain⟨k1,k2⟩:=conjE_app k
     rw[eqL_ok h1 k1,eqL_ok h2 k2]
    ·cases h
   ·cases h
  ·cases h
theorem eqL_ok:∀ {a b:List TV} {l:List Prop},eqL a b=some l→conjE l→a=b
 | [],[],_,_,_=>rfl
 | a::l,b::m,_,h,k=>by
  simp only[eqL] at h
  split at h
  ·rename_i x y h1 h2
   cases h
   obtain⟨k1,k2⟩:=conjE_app k
   rw[eqT_ok h1 k1,eqL_ok h2 k2]
  ·cases h
 | [],_::_,_,h,_=>by simp[eqL] at h
 | _::_,[],_,h,_=>by simp[eqL] at h
end
def LeV (u v:TV):Prop:=∀ l m,LeL l m→LeL (u::l) (v::m)
mutual
theorem leT_ok:∀ {v u:TV} {l:List Prop},leT v u=some l→conjE l→LeV u v
 | v,u,l,h,k=>by
  unfold leT at h
  split at h
  ·exact fun _ _ => .unk
  ·split at h
   ·rename_i ht
    subst ht
    cases h
    cases (show _=_ from k.1)
    exact fun _ _ => .no
   ·cases h
  ·split at h
   ·split at h
    ·rename_i ht
     subst ht
     cases h
     cases (show _=_ from k.1)
     exact fun _ _ => .lab
    ·cases h
   ·cases h
  ·cases h
   cases (show _=_ from k.1)
   exact fun _ _ => .nils
  ·rename_i a b
   have:=leTl_ok h k
   exact fun _ _ => .agg this
  ·rw[eqT_ok h k]
   exact fun _ _ => .same
theorem leTl_ok:∀ {v u:List TV} {l:List Prop},leTl v u=some l→conjE l→LeL u v
 | [],[],_,_,_ => .nil
 | a::l,b::m,_,h,k=>by
  simp only[leTl] at h
  split at h
  ·rename_i x y h1 h2
   cases h
   obtain⟨k1,k2⟩:=conjE_app k
   exact leT_ok h1 k1 _ _ (leTl_ok h2 k2)
  ·cases h
 | [],_::_,_,h,_=>by simp[leTl] at h
 | _::_,[],_,h,_=>by simp[leTl] at h
end
theorem leBl_ok:∀ {v u:List TB} {l:List Prop},leBl v u=some l→conjE l→LeB u v
 | v,u,l,h,k=>by
  induction u generalizing v l with
  | nil=>exact .nil
  | cons b m ih =>
   cases v with
   | nil =>
    cases b with
    | own e s=>exact .new (ih _ _ h k)
    | _=>simp[leBl] at h
   | cons a v =>
    cases b with
    | none=>exact .none (ih _ _ (by simpa [leBl] using h) k)
    | cells c =>
     cases a with
     | cells d =>
      simp only[leBl] at h
      split at h
      ·rename_i x y h1 h2
       cases h
       obtain⟨k1,k2⟩:=conjE_app k
       exact .cells (leTl_ok h1 k1) (ih _ _ h2 k2)
      ·cases h
     | _=>simp[leBl] at h
    | own e s =>
     cases a with
     | own e' s' =>
      simp only[leBl] at h
      split at h
      ·rename_i he
       obtain⟨rfl,rfl⟩:=he
       exact .own (ih _ _ h k)
      ·cases h
     | _=>simp[leBl] at h
theorem headP_ok {sl:List (Nat×TV)} {keep:Nat}:∀ {i:Nat} {te:List TV} {l:List Prop},headP sl i te=some l→conjE l→LeL (headE sl keep i te) te
 | _,[],_,_,_ => .nil
 | i,v::te,l,h,k=>by
  simp only[headP] at h
  simp only[headE]
  split at h
  ·rename_i p hp
   split at h
   ·rename_i x y h1 h2
    cases h
    obtain⟨k1,k2⟩:=conjE_app k
    exact leT_ok h1 k1 _ _ (headP_ok h2 k2)
   ·cases h
  ·rename_i hp
   split
   ·exact .same (headP_ok h k)
   ·exact .unk (headP_ok h k)
theorem headBP_ok {pl:List (Nat×List TV)} {own:List (Nat×Nat)}:∀ {i:Nat} {tS:List TB} {l:List Prop},headBP pl i tS=some l→conjE l→LeB (headB pl i tS++own.map fun p=>TB.own p.1 p.2) tS
 | _,[],_,_,_=>leB_owns own
 | i,b::tS,l,h,k=>by
  simp only[headBP] at h
  simp only[headB,List.cons_append]
  split at h
  ·rename_i c p hp
   split at h
   ·rename_i x y h1 h2
    cases h
    obtain⟨k1,k2⟩:=conjE_app k
    exact .cells (leTl_ok h1 k1) (headBP_ok h2 k2)
   ·cases h
  ·rename_i hno
   have ih:=headBP_ok (own:=own) h k
   rename_i b _ _
   cases b with
   | none=>exact .none ih
   | own e s=>exact .own ih
   | cells c=>exact .cells (LeL.refl c) ih
variable {P:Program} {ty:Tys} {tt:TypeId→Option TT} {T:Tbl} {ι ι' w:Ids} {S S':Store} {te te1:List TV} {env:List DV} {tS tS1:List TB} {iso:IsoF} {call:CallF} {yf:YldF} {o:Oper} {nid nT:Nat} {B:List Nat} {r:TR} {ops:Array Oper} {L:Nat} {fn:FuncId} {rnd:Bool}
theorem arith_pure {v:TV} {c:Prop} (h:arithT te o=some (v,c)) (hc:c):pureT P ty tt te tS o=some (v,True):=by
 unfold arithT at h
 split at h
 ·rename_i t x y _ ho
  split at h
  ·rename_i a b h1 h2
   cases h
   have:pureD P (do eqGuard .add t x y (.int .i64 a) (.int .i64 b); binOp .add t (.int .i64 a) (.int .i64 b))=some (.val (.int .i64 (IntKind.i64.wrap (a+b)))):=rfl
   simp only[pureT,ho,h1,h2,Option.bind_some,toValT,this,valT,Option.map_some,wr_i64 hc.1 hc.2]
  ·cases h
 ·rename_i t x y _ ho
  split at h
  ·rename_i a b h1 h2
   cases h
   have:pureD P (do eqGuard .sub t x y (.int .i64 a) (.int .i64 b); binOp .sub t (.int .i64 a) (.int .i64 b))=some (.val (.int .i64 (IntKind.i64.wrap (a-b)))):=rfl
   simp only[pureT,ho,h1,h2,Option.bind_some,toValT,this,valT,Option.map_some,wr_i64 hc.1 hc.2]
  ·cases h
 ·rename_i t x y _ ho
  split at h
  ·rename_i a b h1 h2
   cases h
   have:pureD P (do eqGuard .mul t x y (.int .i64 a) (.int .i64 b); binOp .mul t (.int .i64 a) (.int .i64 b))=some (.val (.int .i64 (IntKind.i64.wrap (a*b)))):=rfl
   simp only[pureT,ho,h1,h2,Option.bind_some,toValT,this,valT,Option.map_some,wr_i64 hc.1 hc.2]
  ·cases h
 ·rename_i t x ho
  split at h
  ·rename_i a h1
   cases h
   have:pureD P (Op.unary .neg (.int .i64 a))=some (.val (.int .i64 (IntKind.i64.wrap (-a)))):=by rw[← Int.zero_sub]; rfl
   simp only[pureT,ho,h1,Option.bind_some,toValT,this,valT,Option.map_some,wr_i64 hc.1 hc.2]
  ·cases h
 ·cases h
theorem cmp_eql {t:TypeId} {xs ys:Array Value} {b:Bool} (ht:P.underlying t=some (.struct (P.fieldsOf t))) (hp:P.stoodInHeld t=false) (hm:P.eqGuardType P.depth t=false) (hf:pureS P (Op.eqFields 9999 xs ys (P.fieldsOf t).toList)=some b) (x y:Operand) :
  pureD P (do eqGuard .eql t x y (.agg xs) (.agg ys); binOp .eql t (.agg xs) (.agg ys))=some (.val (.bool b)):=by
 have h1:pureS P (eqGuard .eql t x y (.agg xs) (.agg ys))=some ():=by
  simp only[eqGuard]
  simp only[Bool.not_true,Bool.false_eq_true,if_false,pureS_bindE,pureS_program,Option.bind_some,hm,Bool.not_false,if_true]
  rfl
 have h2:pureS P (binOp .eql t (.agg xs) (.agg ys))=some (.bool b):=by
  simp only[binOp,pureS_bindE,Op.equal,Op.maxDepth,pureS_struct 9999 t xs ys ht hp,hf,Option.bind_some]
  rfl
 rw[pureD,pureS_bindE,h1,Option.bind_some,h2]
 rfl
theorem eqFs_ok {xs ys:Array Value}:∀ {fs:List Field} {b:Bool},eqFs P xs ys fs=some b→pureS P (Op.eqFields 9999 xs ys fs)=some b
 | [],_,h=>by cases h; exact eqF_nil
 | f::fs,b,h=>by
  unfold eqFs at h
  split at h
  ·rename_i k a k' b' u r h1 h2 h3 h4 h5
   split at h
   ·rename_i hk
    subst hk
    cases h
    exact eqF_cons h1 h2 h3 h4 (eqFs_ok h5)
   ·cases h
  ·cases h
theorem under_fields {t:TypeId} {fs:Array Field} (h:P.underlying t=some (.struct fs)):P.underlying t=some (.struct (P.fieldsOf t)):=by
 have:P.fieldsOf t=fs:=by simp only[Program.fieldsOf,h]
 rw[this]; exact h
theorem cmp_pure {b:Bool} (h:cmpT P te o=some b):pureT P ty tt te tS o=some (.val (.bool b),True):=by
 unfold cmpT at h
 split at h
 ·rename_i t x y _ ho
  split at h
  ·rename_i xs ys h1 h2
   split at h
   ·rename_i fs h3 h4 h5
    simp only[Option.map_eq_some_iff] at h
    obtain⟨r,h6,rfl⟩:=h
    have e:=cmp_neq (P:=P) (under_fields h3) h4 h5 (b:=r) (by simp only[Program.fieldsOf,h3]; exact eqFs_ok h6) x y
    simp only[pureT,ho,h1,h2,e,valT,Option.map_some]
   ·cases h
  ·cases h
 ·rename_i t x y _ ho
  split at h
  ·rename_i xs ys h1 h2
   split at h
   ·rename_i fs h3 h4 h5
    have e:=cmp_eql (P:=P) (under_fields h3) h4 h5 (b:=b) (by simp only[Program.fieldsOf,h3]; exact eqFs_ok h) x y
    simp only[pureT,ho,h1,h2,e,valT,Option.map_some]
   ·cases h
  ·cases h
 ·cases h
end Go.Tv
end
section
namespace Go.Tv
open Go Go.Di Go.Proofs
variable {P:Program} {ty:Tys} {tt:TypeId→Option TT} {T:Tbl} {ι ι' w:Ids} {S S':Store} {te te1:List TV} {env:List DV} {tS tS1:List TB} {iso:IsoF} {call:CallF} {yf:YldF} {o:Oper} {nid nT:Nat} {B:List Nat} {r:TR} {ops:Array Oper} {L:Nat} {fn:FuncId} {rnd:Bool} {fs:List Foot}
theorem md3 {md:Nat} (h:md≤2):md=0∨md=1∨md=2:=by omega
theorem map_true {α β:Type} {x:Option α} {f:α→β} {q:β×Prop} (h:x.map (fun a=>(f a,True))=some q):q.2:=by
 simp only[Option.map_eq_some_iff] at h
 obtain⟨_,_,rfl⟩:=h
 trivial
theorem noC_pure {q:TV×Prop} (hc:condOp o=false) (h:pureT P ty tt te tS o=some q):q.2:=by
 unfold condOp at hc
 unfold pureT at h
 cases ho:o.op
 all_goals simp only[ho] at hc h
 all_goals try (cases hc; done)
 all_goals repeat' (split at h)
 all_goals first
  | (cases h; done)
  | (cases h; trivial)
  | exact map_true h
  | (simp only[Option.map_eq_some_iff] at h; obtain⟨_,_,rfl⟩:=h; trivial)
theorem noC_step {q:TR} (hc:condOp o=false) (h:stepT P ty tt te tS o nT=some q):q.c:=by
 have hp:∀ {q:TR},((pureT P ty tt te tS o).map fun r=>(⟨r.1,te,tS,readsT te o,r.2⟩:TR))=some q→q.c:=by
  intro q h
  simp only[Option.map_eq_some_iff] at h
  obtain⟨a,h1,rfl⟩:=h
  exact noC_pure hc h1
 unfold stepT at h
 split at h
 ·split at h
  ·cases h; trivial
  ·cases h
 ·split at h
  ·split at h
   ·cases h; trivial
   ·cases h
  ·cases h
 ·split at h
  ·split at h
   ·split at h
    ·simp only[Option.map_eq_some_iff] at h
     obtain⟨_,_,rfl⟩:=h
     trivial
    ·cases h
   ·cases h
  ·cases h
 ·rename_i ho
  simp only[condOp,ho] at hc
  cases hc
 ·exact hp h
def Nb (o:Oper):Prop:=(∃ op t x y u,o.op = .binOp op t x y u)∨∃ op t x,o.op = .unOp op t x
theorem step_of_pure {v:TV} (hb:Nb o) (h:pureT P ty tt te tS o=some (v,True)):stepT P ty tt te tS o nT=some ⟨v,te,tS,[],True⟩:=by
 rcases hb with ⟨op,t,x,y,u,ho⟩ | ⟨op,t,x,ho⟩<;>simp only[stepT,ho,h,Option.map_some,readsT]
theorem arith_bin {v:TV} {c:Prop} (h:arithT te o=some (v,c)):Nb o:=by
 unfold arithT at h
 split at h
 ·rename_i ho; exact .inl ⟨_,_,_,_,_,ho⟩
 ·rename_i ho; exact .inl ⟨_,_,_,_,_,ho⟩
 ·rename_i ho; exact .inl ⟨_,_,_,_,_,ho⟩
 ·rename_i ho; exact .inr ⟨_,_,_,ho⟩
 ·cases h
theorem cmp_bin {b:Bool} (h:cmpT P te o=some b):Nb o:=by
 unfold cmpT at h
 split at h
 ·rename_i ho; exact .inl ⟨_,_,_,_,_,ho⟩
 ·rename_i ho; exact .inl ⟨_,_,_,_,_,ho⟩
 ·cases h
theorem bin_wr (hb:Nb o):wrOf o=false:=by
 rcases hb with ⟨op,t,x,y,u,ho⟩ | ⟨op,t,x,ho⟩<;>simp only[wrOf,ho]
theorem callV_ok {g:FuncId} {targs:List TV} (h:callV tt te o=some (g,targs)):∃ f args argTypes fs cs xs,o.op = .call { callee := .value f,args,argTypes }∧evT te f=some (.fn g fs cs)∧evsT te args.toList=some xs∧(fs++xs++cs).all pureB=true∧normL (argTys tt fs argTypes) (fs++xs++cs)=targs:=by
 unfold callV at h
 split at h
 ·rename_i f args argTypes ho
  split at h
  ·rename_i g' fs cs xs h1 h2
   split at h
   ·rename_i h3
    cases h
    exact⟨f,args,argTypes,fs,cs,xs,ho,h1,h2,h3,rfl⟩
   ·cases h
  ·cases h
 ·cases h
theorem pcallV_ok {g:FuncId} {kp:Nat} {targs ts:List TV} (h:pcallV tt te tS o=some (g,kp,targs,ts)):∃ f args argTypes fs cs xs,o.op = .call { callee := .value f,args,argTypes }∧evT te f=some (.fn g fs cs)∧evsT te args.toList=some xs∧argsP kp (argTys tt fs argTypes) (fs++xs++cs)=some targs∧(fs++xs++cs).any isRef=true∧tS[kp]? = some (.cells ts)∧refsL ts=[]:=by
 unfold pcallV at h
 split at h
 ·rename_i f args argTypes ho
  split at h
  ·rename_i g' fs cs xs h1 h2
   split at h
   ·split at h
    ·rename_i h4 h5
     split at h
     ·rename_i h6
      simp only[Bool.and_eq_true,List.isEmpty_iff] at h6
      cases h
      exact⟨f,args,argTypes,fs,cs,xs,ho,h1,h2,h4,h6.1,h5,h6.2⟩
     ·cases h
    ·cases h
   ·cases h
  ·cases h
 ·cases h
theorem pcallD_ok {g:FuncId} {kp:Nat} {targs ts:List TV} (h:pcallD tt te tS o=some (g,kp,targs,ts)):∃ f args argTypes fs cs xs off rest,o.op = .call { callee := .value f,args,argTypes }∧evT te f=some (.fn g fs cs)∧evsT te args.toList=some xs∧fs++xs++cs = .ptr kp off::rest∧rest.all pureB=true∧tS[kp]? = some (.cells ts)∧ts.all flat1=true∧targs = .ptr 0 off::normL (argTys tt fs argTypes).tail rest:=by
 unfold pcallD at h
 split at h
 ·rename_i f args argTypes ho
  split at h
  ·rename_i g' fs cs xs h1 h2
   split at h
   ·rename_i kp' off rest hl
    split at h
    ·rename_i ts' h5
     split at h
     ·rename_i h6
      simp only[Bool.and_eq_true] at h6
      cases h
      exact⟨f,args,argTypes,fs,cs,xs,off,rest,ho,h1,h2,hl,h6.1,h5,h6.2,rfl⟩
     ·cases h
    ·cases h
   ·cases h
  ·cases h
 ·cases h
theorem flatM_ok {md:Nat} {v:TV} {cs:List TV} {K:Prop} (h:flatM md v cs K):(md=2→flatR v=true∧cs.all flat1=true)∧K:=by
 unfold flatM at h
 split at h
 ·split at h
  ·rename_i h1
   simp only[Bool.and_eq_true] at h1
   exact⟨fun _=>h1,h⟩
  ·exact h.elim
 ·rename_i hn
  exact⟨fun e=>(hn e).elim,h⟩
theorem mem_cellsIx {k:Nat}:∀ {tS:List TB} {i:Nat},k∈cellsIx i tS↔i≤k∧∃ c,tS[k-i]? = some (.cells c)
 | [],i=>by simp[cellsIx]
 | b::l,i=>by
  have ih:=mem_cellsIx (k:=k) (tS:=l) (i:=i+1)
  have hs:∀ (c:List TV),i+1≤k→((b::l)[k-i]? = some (.cells c)↔l[k-(i+1)]? = some (.cells c)):=fun c h=>by
   rw[show k-i=(k-(i+1))+1 by omega,List.getElem?_cons_succ]
  cases b with
  | cells c0 =>
   simp only[cellsIx,List.mem_cons,ih]
   constructor
   ·rintro(rfl | ⟨h1,c,h2⟩)
    ·exact⟨Nat.le_refl _,c0,by simp⟩
    ·exact⟨by omega,c,(hs c h1).2 h2⟩
   ·rintro⟨h1,c,h2⟩
    by_cases e:k=i
    ·exact .inl e
    ·exact .inr ⟨by omega,c,(hs c (by omega)).1 h2⟩
  | none =>
   simp only[cellsIx,ih]
   constructor
   ·rintro⟨h1,c,h2⟩; exact⟨by omega,c,(hs c h1).2 h2⟩
   ·rintro⟨h1,c,h2⟩
    by_cases e:k=i
    ·subst e; simp at h2
    ·exact⟨by omega,c,(hs c (by omega)).1 h2⟩
  | own e0 s0 =>
   simp only[cellsIx,ih]
   constructor
   ·rintro⟨h1,c,h2⟩; exact⟨by omega,c,(hs c h1).2 h2⟩
   ·rintro⟨h1,c,h2⟩
    by_cases e:k=i
    ·subst e; simp at h2
    ·exact⟨by omega,c,(hs c (by omega)).1 h2⟩
theorem ix_cells {k:Nat} {c:List TV} (h:tS[k]? = some (.cells c)):k∈cellsIx 0 tS:=mem_cellsIx.2 ⟨Nat.zero_le _,c,h⟩
theorem ix_bok:BOK (cellsIx 0 tS) tS:=fun _ hk=>(mem_cellsIx.1 hk).2
mutual
theorem rt_drop (hi:∀ k,isCells tS k=true→ι' k=ι k):∀ (v:TV) (d:DV),RT ι S v d→RT ι' S' (dropV tS v) d
 | .unk,_,_=>by simp only[dropV,RT]
 | .val _,d,k=>by cases d<;>simp only[RT,dropV] at k ⊢; exact k
 | .nils,d,k=>by cases d<;>simp only[RT,dropV] at k ⊢; exact k
 | .agg l,d,k=>by cases d<;>simp only[RT,dropV] at k ⊢; exact rtl_drop' hi l _ k
 | .tup l,d,k=>by cases d<;>simp only[RT,dropV] at k ⊢; exact rtl_drop' hi l _ k
 | .sl t l .no,d,k=>by cases d<;>simp only[RT,dropV] at k ⊢; exact k
 | .sl t l .full,d,k=>by cases d<;>simp only[RT,dropV] at k ⊢; exact k
 | .sl t l (.lab g),d,k=>by cases d<;>simp only[RT,dropV] at k ⊢; exact⟨k.1,trivial⟩
 | .ptr id off,d,k=>by
  cases d<;>simp only[RT] at k
  simp only[dropV]
  split
  ·rename_i hc
   simp only[RT]
   exact⟨(hi _ hc).trans k.1,k.2⟩
  ·simp only[RT]
 | .eptr t l i off,d,k=>by cases d<;>simp only[RT,dropV] at k ⊢; exact k
 | .fn f a b,d,k=>by cases d<;>simp only[RT,dropV] at k ⊢; exact⟨k.1,rtl_drop' hi a _ k.2.1,rtl_drop' hi b _ k.2.2⟩
theorem rtl_drop' (hi:∀ k,isCells tS k=true→ι' k=ι k):∀ (l:List TV) (m:List DV),RTl ι S l m→RTl ι' S' (dropL tS l) m
 | [],m,k=>by rw[rtl_nil' k]; simp only[dropL]; exact rtl_nil
 | a::l,m,k=>by
  obtain⟨d,m',rfl,h1,h2⟩:=rtl_cases k
  simp only[dropL]
  exact rtl_cons (rt_drop hi a d h1) (rtl_drop' hi l m' h2)
end
def Follows (call:CallF) (g:FuncId) (A:List TV) (tS:List TB) (K:TV→List TB→Prop):Prop :=
 ∀ ι dargs S,RelT ι A tS dargs S→∃ d S' ι' v tS',call g dargs S=some (d,S')∧RelT ι' [v] tS' [d] S'∧BOK (cellsIx 0 tS) tS'∧Fr (cellsIx 0 tS) ι S ι' S'∧Nn S.length S S'∧K v tS'
theorem does_inl {f:Operand} {args:Array Operand} {argTypes:Array TypeId} {g:FuncId} {fs cs xs:List TV} {K:TV→List TB→Prop} (hop:o.op = .call { callee := .value f,args,argTypes }) (hf:evT te f=some (.fn g fs cs)) (ha:evsT te args.toList=some xs) (hr:(fs++xs++cs).any isRef=true)
  (hc:Follows call g (fs++xs++cs) tS K):Does P ty iso call yf B o nT te tS false fun v te' tS' _=>te'=dropL tS te∧K v tS':=by
 intro ι w env S nid hR hB hw hT hnd hS
 obtain⟨fs',cs',xs',k1,k2,k3⟩:=icall_args hR.env hf ha
 obtain⟨d,S',ι',v,tS',m1,m2,m3,m4,m5,m6⟩:=hc ι _ S ⟨k3,hR.cells,hR.own,hR.dom,hR.inj⟩
 obtain⟨w',hw'⟩:=wok_ex m2
 obtain⟨_,_,e,m7,-⟩:=rtl_cases m2.env
 cases e
 have hsub:∀ k,k∈B→k∈cellsIx 0 tS:=fun k hk=>by obtain⟨l,h1⟩:=hB k hk; exact ix_cells h1
 refine⟨d,S',ι',w',v,dropL tS te,tS',⟨none,true⟩,⟨none,true⟩,fun _ => ?_,fun e=>(by cases e),⟨fun e=>e,fun l hl=>(by cases hl)⟩,fun l m hl=>(by cases hl),⟨rtl_drop' (fun k hk => ?_) _ _ hR.env,m2.cells,m2.own,m2.dom,m2.inj⟩,m7,hw',fun e=>(by cases e),⟨m4.rest,m4.ours,fun k hk=>m4.base k (hsub k hk)⟩,fun k hk=>m3 k (hsub k hk),⟨m5.1,fun j hj hnone=>m5.2 j (by have:=(List.getElem?_eq_some_iff.1 hnone).1; omega) hnone⟩,rfl,m6⟩
 ·simp only[stepOp,hop,k1,k2,callD,ref_impure hr k3,Bool.false_eq_true,if_false,m1]
 ·unfold isCells at hk
  split at hk
  ·rename_i c hc; exact m4.base k (ix_cells hc)
  ·cases hk
theorem inlX_ok {md:Nat} {A:List TV} {fn:Func} {j:List (Nat×LA)} (h:inlX T md te o=some (A,fn,j)):md=0∧∃ f args argTypes g fs cs xs,o.op = .call { callee := .value f,args,argTypes }∧evT te f=some (.fn g fs cs)∧evsT te args.toList=some xs∧(fs++xs++cs).any isRef=true∧A=fs++xs++cs∧T.X g=some (fn,j):=by
 unfold inlX at h
 split at h
 ·split at h
  ·rename_i g A' h1
   split at h
   ·rename_i fn' j' h2
    cases h
    unfold inlV at h1
    split at h1
    ·rename_i f args argTypes ho
     split at h1
     ·rename_i g' fs cs xs e1 e2
      split at h1
      ·rename_i hr
       cases h1
       exact⟨rfl,f,args,argTypes,g,fs,cs,xs,ho,e1,e2,hr,rfl,h2⟩
      ·cases h1
     ·cases h1
    ·cases h1
   ·cases h
  ·cases h
 ·cases h
theorem nil_step {b:Bool} {c:Prop} (h:nilT ty te o=some (b,c)) (hc:c):(∃ op t x y u,o.op = .binOp op t x y u)∧∀ {env:List DV},RTl ι S te env→∀ nid,stepOp P ty iso call yf (evD env) o S nid=some (.val (.bool b),S):=by
 unfold nilT at h
 split at h
 ·rename_i t x y _ ho
  refine⟨⟨_,_,_,_,_,ho⟩,fun {env} hE nid => ?_⟩
  split at h
  ·rename_i h1 h2 h3
   cases h
   obtain⟨d1,k1,k2⟩:=evT_ok hE h2
   obtain⟨d2,k3,k4⟩:=evT_ok hE h3
   cases d1<;>simp only[RT] at k2
   cases d2<;>simp only[RT] at k4
   obtain⟨rfl,rfl,rfl⟩:=k4
   rename_i rows tok f
   have hr:rows.isEmpty=false:=by
    have:=rows_len k2.1
    cases rows with
    | nil=>exact absurd (List.eq_nil_of_length_eq_zero (by simpa using this.symm)) hc
    | cons=>rfl
   simp only[stepOp,ho,valOf,k1,k3,Option.bind_some,toVal,nilEqD,h1,nilD,hr,Bool.false_eq_true,if_false,Option.map_some]
  ·rename_i h1 h2 h3
   cases h
   obtain⟨d1,k1,k2⟩:=evT_ok hE h2
   obtain⟨d2,k3,k4⟩:=evT_ok hE h3
   cases d1<;>simp only[RT] at k2
   cases d2<;>simp only[RT] at k4
   obtain⟨rfl,rfl,rfl⟩:=k4
   obtain⟨rfl,rfl,rfl⟩:=k2
   simp only[stepOp,ho,valOf,k1,k3,Option.bind_some,toVal,nilEqD,h1,nilD,List.isEmpty_nil,if_true,Option.map_some]
  ·cases h
 ·cases h
theorem does_val {b:Value} (hb:∃ op t x y u,o.op = .binOp op t x y u) (h:∀ {ι:Ids} {S:Store} {env:List DV},RTl ι S te env→∀ nid,stepOp P ty iso call yf (evD env) o S nid=some (.val b,S)) (dr:Bool):Does P ty iso call yf B o nT te tS dr fun v te' tS' ft=>v = .val b∧te'=te∧tS'=tS∧ft=⟨some [],false⟩:=by
 intro ι w env S nid hR hB hw hT hn hS
 obtain⟨op,t,x,y,u,ho⟩:=hb
 refine⟨.val b,S,ι,w,.val b,te,tS,⟨some [],false⟩,⟨some [],false⟩,fun _=>h hR.env nid,fun _ => ?_,⟨id,fun l hl=>⟨[],rfl,fun j hj=>(by cases hj)⟩⟩,fun l m _ hm j hj=>(by cases hm; cases hj),hR,by simp only[RT],hw,fun _ _ _=>rfl,Fr.refl _ _ _,hB,nn_refl _ _,rfl,rfl,rfl,rfl⟩
 have:=h hR.env nid
 simp only[stepDr,ho]
 rw[this]; rfl
theorem wq_val {k:Nat} {b:Value} {Q:List TV→Prop} (ho:ops[k]? = some o) (hw:wantedT ops te o=some true) (hb:∃ op t x y u,o.op = .binOp op t x y u) (h:∀ {ι:Ids} {S:Store} {env:List DV},RTl ι S te env→∀ nid,stepOp P ty iso call yf (evD env) o S nid=some (.val b,S)) (hq:WQ P ty iso call yf ops tS (k+1) (putTV te o.dst (.val b)) Q):WQ P ty iso call yf ops tS k te Q:=by
 intro ι env S hR
 obtain⟨env',te',n1,n2,n3⟩:=hq ι (putD env o.dst (.val b)) S (rel_put hR (by simp only[RT]) _)
 refine⟨env',te',?_,n2,n3⟩
 rw[drop_op ho]
 have hs:=h hR.env S.length
 obtain⟨op,t,x,y,u,hop⟩:=hb
 have hq:quietOp P ty iso call yf (evD env) o S=some (.val b):=by
  simp only[quietOp,hop]
  rw[hs]; rfl
 simp only[runQ,wantedT_ok hR.env hw,if_true,hq,n1]
def Beh (P:Program) (ty:Tys) (iso:IsoF) (call:CallF) (yf:YldF) (B:List Nat) (ops:Array Oper) (Q:List TV→List TB→Prop) (md:Nat) (tS0:List TB) (k:Nat) (te:List TV) (tS:List TB) (fs:List Foot):Prop :=
 match md with
 | 0=>WL P ty iso call yf B ops k te tS Q
 | 1=>tS=tS0→WQ P ty iso call yf ops tS0 k te fun te=>Q te tS0
 | _=>WD P ty iso call yf B ops k te tS fs Q
theorem skip_ok {Q:List TV→List TB→Prop} {md k:Nat} {tS0:List TB} (hmd:md≤2) (ho:ops[k]? = some o) (hw:wantedT ops te o=some false) {K:KO} (hK:∀ te tS fs,K te tS fs→Beh P ty iso call yf B ops Q md tS0 (k+1) te tS fs) (h:skipK o te tS fs K):Beh P ty iso call yf B ops Q md tS0 k te tS fs:=by
 have h1:=hK _ _ _ (putK_ok (K:=fun te=>K te tS (fs++[quietF])) h)
 rcases md3 hmd with rfl | rfl | rfl
 ·exact wl_skip ho hw h1
 ·exact fun e=>wq_skip ho hw (h1 e)
 ·exact wd_skip ho hw h1
variable {inl:Inl}
def InlOK (call:CallF) (T:Tbl) (inl:Inl):Prop:=∀ g fn j A tS (K:TV→List TB→Prop),T.X g=some (fn,j)→inl fn j A tS K→Follows call g A tS K
theorem call_ok (hT:TblOK T iso call) (hI:InlOK call T inl) {Q:List TV→List TB→Prop} {md n0 k:Nat} {tS0:List TB} (hmd:md≤2) (ho:ops[k]? = some o) (hw:wantedT ops te o=some true) {K:KO} (hK:∀ te tS fs,K te tS fs→Beh P ty iso call yf B ops Q md tS0 (k+1) te tS fs)
  (hn:newB tS (nidT md n0 k tS)=true) (h:callK tt T inl md o te tS fs K):Beh P ty iso call yf B ops Q md tS0 k te tS fs:=by
 unfold callK at h
 split at h
 ·rename_i A fn j hx
  obtain⟨rfl,f,args,argTypes,g,fs1,cs1,xs,c1,c2,c3,c4,rfl,c5⟩:=inlX_ok hx
  refine wl_op ho hw (does_inl c1 c2 c3 c4 (hI g fn j _ tS _ c5 h)) ?_
  rintro v te' tS' ft ⟨rfl,hv⟩
  exact hK _ _ _ (putK_ok (K:=fun te=>K te tS' fs) (forceL_ok (dropL tS te) (K:=fun te=>putK te o.dst v fun te=>K te tS' fs) (forceV_ok v (K:=fun v=>forceL (dropL tS te) fun te=>putK te o.dst v fun te=>K te tS' fs) hv)))
 split at h
 ·rename_i g targs hc
  obtain⟨f,args,argTypes,fs1,cs1,xs,c1,c2,c3,c4,c5⟩:=callV_ok hc
  split at h
  ·rename_i p s hm hs
   have hm:md=0:=by simpa using hm
   subst hm
   obtain⟨hp,h⟩:=conj_elim h
   refine wl_op ho hw (does_ncall c1 c2 c3 c4 c5 (hT.N _ _ _ _ hs hp)) ?_
   rintro v te' tS' ft ⟨ts,hq,rfl,rfl,rfl⟩
   have e:setT tS tS.length (.cells ts)=tS++[.cells ts]:=by unfold setT; rw[if_neg (Nat.lt_irrefl _)]
   rw[e]
   exact hK _ _ _ (putK_ok (K:=fun te=>K te (tS++[.cells ts]) fs) (all_holdsN (R:=fun cs=>putK te' o.dst (.ptr tS.length 0) fun te=>K te (tS++[.cells cs]) fs) h hq))
  ·split at h
   ·rename_i p s hs
    obtain⟨hp,h⟩:=conj_elim h
    have hsp:=hT.I _ _ _ _ hs hp
    have fin:∀ v,s.holdsV v→Beh P ty iso call yf B ops Q md tS0 (k+1) (putTV te o.dst v) tS (fs++[quietF]):=fun v hv =>
     hK _ _ _ (putK_ok (K:=fun te=>K te tS (fs++[quietF])) (forceV_ok v (K:=fun v=>putK te o.dst v fun te=>K te tS (fs++[quietF])) (all_holdsV (R:=fun v=>forceV v fun v=>putK te o.dst v fun te=>K te tS (fs++[quietF])) h hv)))
    rcases md3 hmd with rfl | rfl | rfl
    ·skip
     refine wl_op ho hw (does_icall c1 c2 c3 c4 c5 hsp false) ?_
     rintro v te' tS' ft ⟨hv,rfl,rfl,-⟩
     exact fin v hv
    ·exact fun e=>wq_icall ho hw c1 c2 c3 c4 c5 hsp fun v hv=>fin v hv e
    ·skip
     refine wd_op ho hw hn (does_icall c1 c2 c3 c4 c5 hsp true) ?_
     rintro v te' tS' ft ⟨hv,rfl,rfl,rfl⟩
     exact fin v hv
   ·exact h.elim
 ·split at h
  ·rename_i g kp targs ts hc
   split at h
   ·rename_i p s hs
    obtain⟨hp,h⟩:=conj_elim h
    have hsp:=hT.C _ _ _ _ _ hs hp
    have all:∀ v cs,s.holds v cs→flatM md v cs (forceV v fun v=>putK te o.dst v fun te=>forceL cs fun cs=>forceB (tS.set kp (.cells cs)) fun tS=>K te tS (fs++[footM md kp])):=fun v cs hv =>
     all_holds (R:=fun v cs=>flatM md v cs (forceV v fun v=>putK te o.dst v fun te=>forceL cs fun cs=>forceB (tS.set kp (.cells cs)) fun tS=>K te tS (fs++[footM md kp]))) h hv
    have fin:∀ v cs,s.holds v cs→Beh P ty iso call yf B ops Q md tS0 (k+1) (putTV te o.dst v) (tS.set kp (.cells cs)) (fs++[footM md kp]):=fun v cs hv=>by
     have h1:=putK_ok (forceV_ok v (K:=fun v=>putK te o.dst v fun te=>forceL cs fun cs=>forceB (tS.set kp (.cells cs)) fun tS=>K te tS (fs++[footM md kp])) (flatM_ok (all v cs hv)).2)
     exact hK _ _ _ (forceB_ok _ (K:=fun tS=>K _ tS (fs++[footM md kp])) (forceL_ok cs (K:=fun cs=>forceB (tS.set kp (.cells cs)) fun tS=>K _ tS (fs++[footM md kp])) h1))
    rcases md3 hmd with rfl | rfl | rfl
    ·obtain⟨f,args,argTypes,fs1,cs1,xs,c1,c2,c3,c4,c5,c6,c7⟩:=pcallV_ok (tt:=tt) hc
     refine wl_op ho hw (does_pcall c1 c2 c3 c4 c5 c6 c7 hsp) ?_
     rintro v te' tS' ft ⟨ts',hv,rfl,rfl,-⟩
     exact fin v ts' hv
    ·cases hc
    ·obtain⟨f,args,argTypes,fs1,cs1,xs,off,rest,c1,c2,c3,c4,c5,c6,c7,rfl⟩:=pcallD_ok (tt:=tt) hc
     refine wd_op ho hw hn (does_pcallD (tt:=tt) c1 c2 c3 c4 c5 c6 c7 hsp fun v cs hv=>(flatM_ok (all v cs hv)).1 rfl) ?_
     rintro v te' tS' ft ⟨ts',hv,rfl,rfl,rfl⟩
     exact fin v ts' hv
   ·exact h.elim
  ·exact h.elim
theorem quiet_ok {Q:List TV→List TB→Prop} {md n0 k:Nat} {tS0:List TB} (hmd:md≤2) (ho:ops[k]? = some o) (hw:wantedT ops te o=some true) {K:KO} (hK:∀ te tS fs,K te tS fs→Beh P ty iso call yf B ops Q md tS0 (k+1) te tS fs)
  (hn:newB tS (nidT md n0 k tS)=true) {v:TV} (hb:Nb o) (hp:pureT P ty tt te tS o=some (v,True)) (h:putK te o.dst v fun te=>K te tS (fs++[quietF])):Beh P ty iso call yf B ops Q md tS0 k te tS fs:=by
 have h1:=hK _ _ _ (putK_ok (K:=fun te=>K te tS (fs++[quietF])) h)
 rcases md3 hmd with rfl | rfl | rfl
 ·skip
  refine wl_op ho hw (does_step (step_of_pure hb hp) trivial false) ?_
  rintro v' te' tS' ft ⟨rfl,rfl,rfl,-⟩
  exact h1
 ·exact fun e=>wq_pure ho hw (e▸hp) trivial (h1 e)
 ·skip
  refine wd_op ho hw hn (does_step (step_of_pure hb hp) trivial true) ?_
  rintro v' te' tS' ft ⟨rfl,rfl,rfl,rfl⟩
  rw[bin_wr hb]
  exact h1
theorem op1_ok (hT:TblOK T iso call) (hI:InlOK call T inl) {Q:List TV→List TB→Prop} {md n0 k:Nat} {tS0:List TB} (hmd:md≤2) (ho:ops[k]? = some o) (hw:wantedT ops te o=some true) {K:KO} (hK:∀ te tS fs,K te tS fs→Beh P ty iso call yf B ops Q md tS0 (k+1) te tS fs)
  (h:opK1 P ty tt T inl md n0 k o te tS fs K):Beh P ty iso call yf B ops Q md tS0 k te tS fs:=by
 unfold opK1 at h
 split at h
 ·exact h.elim
 ·rename_i hn
  split at h
  ·exact call_ok hT hI hmd ho hw hK hn h
  ·split at h
   ·rename_i v c ha
    exact quiet_ok hmd ho hw hK hn (arith_bin ha) (arith_pure (tt:=tt) ha h.1) h.2
   ·split at h
    ·rename_i b _ hb
     exact quiet_ok hmd ho hw hK hn (cmp_bin hb) (cmp_pure (tt:=tt) hb) h
    ·rename_i b c _ _ hb
     obtain⟨hc,h⟩:=h
     have h1:=hK _ _ _ (putK_ok (K:=fun te=>K te tS (fs++[quietF])) h)
     rcases md3 hmd with rfl | rfl | rfl
     ·refine wl_op ho hw (does_val (nil_step (P:=P) (iso:=iso) (call:=call) (yf:=yf) (ι:=noIds) (S:=[]) hb hc).1 (fun hE nid=>(nil_step hb hc).2 hE nid) false) ?_
      rintro v' te' tS' ft ⟨rfl,rfl,rfl,-⟩
      exact h1
     ·exact fun e=>wq_val ho hw (nil_step (P:=P) (iso:=iso) (call:=call) (yf:=yf) (ι:=noIds) (S:=[]) hb hc).1 (fun hE nid=>(nil_step hb hc).2 hE nid) (h1 e)
     ·refine wd_op ho hw hn (does_val (nil_step (P:=P) (iso:=iso) (call:=call) (yf:=yf) (ι:=noIds) (S:=[]) hb hc).1 (fun hE nid=>(nil_step hb hc).2 hE nid) true) ?_
      rintro v' te' tS' ft ⟨rfl,rfl,rfl,rfl⟩
      exact h1
    ·have key:md≠1→∀ q:TR,stepT P ty tt te tS o (nidT md n0 k tS)=some q→q.c→K (putTV q.te o.dst q.v) q.tS (fs++[⟨some q.foot,wrOf o⟩])→Beh P ty iso call yf B ops Q md tS0 k te tS fs:=by
      intro hm q hq hc hk
      have h1:=hK _ _ _ hk
      rcases md3 hmd with rfl | rfl | rfl
      ·skip
       refine wl_op ho hw (does_step hq hc false) ?_
       rintro v' te' tS' ft ⟨rfl,rfl,rfl,-⟩
       exact h1
      ·exact(hm rfl).elim
      ·skip
       refine wd_op ho hw hn (does_step hq hc true) ?_
       rintro v' te' tS' ft ⟨rfl,rfl,rfl,rfl⟩
       exact h1
     split at h
     ·split at h
      ·rename_i q hq
       have fin:∀ {R:Prop},q.2→K (putTV te o.dst q.1) tS (fs++[quietF])→Beh P ty iso call yf B ops Q 1 tS0 k te tS fs:=fun {_} hc hk e=>wq_pure ho hw (e▸(show pureT P ty tt te tS o=some (q.1,q.2) from hq)) hc (hK _ _ _ hk e)
       split at h
       ·exact fin (R:=True) h.1 (putK_ok (K:=fun te=>K te tS (fs++[quietF])) (forceV_ok q.1 (K:=fun v=>putK te o.dst v fun te=>K te tS (fs++[quietF])) h.2))
       ·rename_i hcond
        exact fin (R:=True) (noC_pure hcond hq) (putK_ok (K:=fun te=>K te tS (fs++[quietF])) (forceV_ok q.1 (K:=fun v=>putK te o.dst v fun te=>K te tS (fs++[quietF])) h))
      ·exact h.elim
     ·rename_i hm
      split at h
      ·rename_i q hq
       split at h
       ·refine key (fun e=>hm e) q hq h.1 ?_
        have h1:=forceL_ok q.te (forceV_ok q.v (K:=fun v=>forceL q.te fun te=>putK te o.dst v fun te=>forceB q.tS fun tS=>K te tS (fs++[⟨some q.foot,wrOf o⟩])) h.2)
        exact forceB_ok q.tS (K:=fun tS=>K _ tS _) (putK_ok h1)
       ·rename_i hcond
        refine key (fun e=>hm e) q hq (noC_step hcond hq) ?_
        have h1:=putK_ok (forceV_ok q.v (K:=fun v=>putK q.te o.dst v fun te=>forceB q.tS fun tS=>K te tS (fs++[⟨some q.foot,wrOf o⟩])) h)
        exact forceB_ok q.tS (K:=fun tS=>K _ tS _) h1
      ·exact h.elim
theorem split_ok {n:Int} {K:Nat→Prop}:∀ (c j:Nat),splitK n K c j→∃ i:Nat,n=i∧K i
 | 0,_,h=>h.elim
 | c+1,j,h=>by
  obtain⟨h1,h2⟩:=vcIf_elim h
  by_cases e:n=(j:Int)
  ·exact⟨j,e,h1 (decide_eq_true e)⟩
  ·exact split_ok c (j+1) (h2 (decide_eq_false e))
theorem arr_ok {t c:Nat} {n:Int} (h:arrT ty te o=some (t,n,c)):te[t]? = some (.val (.int .i64 n)):=by
 unfold arrT at h
 split at h
 ·split at h
  ·rename_i h1 h2; cases h; exact h2
  ·cases h
 ·split at h
  ·rename_i h1 h2; cases h; exact h2
  ·cases h
 ·cases h
theorem op_ok (hT:TblOK T iso call) (hI:InlOK call T inl) {Q:List TV→List TB→Prop} {md n0 k:Nat} {tS0:List TB} (hmd:md≤2) (ho:ops[k]? = some o) (hw:wantedT ops te o=some true) {K:KO} (hK:∀ te tS fs,K te tS fs→Beh P ty iso call yf B ops Q md tS0 (k+1) te tS fs)
  (h:opK P ty tt T inl md n0 k o te tS fs K):Beh P ty iso call yf B ops Q md tS0 k te tS fs:=by
 unfold opK at h
 split at h
 ·rename_i t n c ha
  obtain⟨i,rfl,hi⟩:=split_ok _ _ h
  have:=setK_ok te t _ hi
  rw[set_same (arr_ok ha)] at this
  exact op1_ok hT hI hmd ho hw hK this
 ·exact op1_ok hT hI hmd ho hw hK h
theorem gd_ok {b:Bool} (h:gdT ops te o = .no b):wantedT ops te o=some b:=by
 unfold gdT at h
 unfold wantedT
 split at h
 ·cases h; rename_i e; rw[e]
 ·rename_i e
  rw[e]
  dsimp only
  split at h
  ·rename_i e1
   rw[e1]
   dsimp only
   split at h
   ·cases h
   ·cases h
   ·cases h
    rename_i v hv e2
    rw[e2]
    split<;>simp_all
   ·cases h
  ·cases h; rename_i e1; rw[e1]
theorem gd_ask {d:Tmp} {b want:Bool} (h:gdT ops te o = .ask d b want):te[d]? = some (.val (.bool b))∧wantedT ops te o=some (match want with | true=>b | false => !b):=by
 unfold gdT at h
 unfold wantedT
 split at h
 ·cases h
 ·rename_i e
  rw[e]
  dsimp only
  split at h
  ·rename_i e1
   rw[e1]
   dsimp only
   split at h
   ·cases h; rename_i e2; rw[e2]; cases want<;>exact⟨rfl,rfl⟩
   ·cases h
   ·cases h
   ·cases h
  ·cases h
theorem ops_ok (hT:TblOK T iso call) (hI:InlOK call T inl) {Q:List TV→List TB→Prop} {md n0:Nat} {tS0:List TB} (hmd:md≤2) {K:KO} (hK:∀ te tS fs,K te tS fs→Beh P ty iso call yf B ops Q md tS0 ops.size te tS fs) :
  ∀ (r:List Oper) (k:Nat) (te:List TV) (tS:List TB) (fs:List Foot),ops.toList.drop k=r→vcOps P ty tt T inl md n0 ops r k te tS fs K→Beh P ty iso call yf B ops Q md tS0 k te tS fs
 | [],k,te,tS,fs,hr,h=>by
  have hk:ops.size≤k:=by
   have:=List.drop_eq_nil_iff.1 hr
   simpa using this
  have h1:=hK te tS fs h
  rcases md3 hmd with rfl | rfl | rfl
  ·intro ι env S hR hB; have:=h1 ι env S hR hB; rw[List.drop_eq_nil_of_le (by simp)] at this; rw[List.drop_eq_nil_of_le (by simpa using hk)]; exact this
  ·intro e ι env S hR; have:=h1 e ι env S hR; rw[List.drop_eq_nil_of_le (by simp)] at this; rw[List.drop_eq_nil_of_le (by simpa using hk)]; exact this
  ·skip
   intro ι w env S n0 hR hB hw hn
   have:=h1 ι w env S n0 hR hB hw (fun j hj hj'=>by omega)
   rw[List.drop_eq_nil_of_le (by simp)] at this
   rw[List.drop_eq_nil_of_le (by simpa using hk)]
   obtain⟨env',S',fs',ι',w',te',tS',ft,e1,e2,e3,e4,e5,e6,e7,e8,e9⟩:=this
   exact⟨env',S',fs',ι',w',te',tS',ft,e1,e2,fun j _=>e3 j fun i hi hi'=>by omega,e4,e5,e6,e7,⟨e8.1,fun j _ hn=>e8.2 j (fun i hi hi'=>by omega) hn⟩,e9⟩
 | o::r,k,te,tS,fs,hr,h=>by
  obtain⟨ho,hr'⟩:=get_of_drop hr
  have ih:∀ te tS fs,vcOps P ty tt T inl md n0 ops r (k+1) te tS fs K→Beh P ty iso call yf B ops Q md tS0 (k+1) te tS fs:=fun te tS fs=>ops_ok hT hI hmd hK r (k+1) te tS fs hr'.symm
  simp only[vcOps] at h
  split at h
  ·rename_i hg
   exact op_ok hT hI hmd ho (gd_ok hg) ih h
  ·rename_i hg
   exact skip_ok hmd ho (gd_ok hg) ih h
  ·rename_i d b want hg
   obtain⟨h1,h2⟩:=gd_ask hg
   split at h
   ·obtain⟨k1,k2⟩:=vcIf_elim h
    cases b with
    | true=>have:=setK_ok te d _ (k1 rfl); rw[set_same h1] at this; exact op_ok hT hI hmd ho h2 ih this
    | false=>have:=setK_ok te d _ (k2 rfl); rw[set_same h1] at this; exact skip_ok hmd ho h2 ih this
   ·obtain⟨k1,k2⟩:=vcIf_elim h
    cases b with
    | true=>have:=setK_ok te d _ (k1 rfl); rw[set_same h1] at this; exact skip_ok hmd ho h2 ih this
    | false=>have:=setK_ok te d _ (k2 rfl); rw[set_same h1] at this; exact op_ok hT hI hmd ho h2 ih this
  ·exact h.elim
end Go.Tv
end
