import Derived.Test.YtoccmmopffbbfaaPk04
import Derived.Test.YtoccmmopffbbfaaChecked
import Derived.KernelRfl
import Derived.Laws.BitsLemmas
section
namespace Go.Tv
open Go Go.Di
def mkE (n:Nat) (l:List (Nat×TV)):List TV:=(List.range n).map fun i=>match l.find? fun p=>p.1==i with
 | some p=>p.2
 | none => .unk
def maskE (ks:List Nat):Nat→List TV→List TV
 | _,[]=>[]
 | i,v::l=>(if ks.contains i then v else .unk)::maskE ks (i+1) l
def andC (a b:Prop):Prop:=a∧b
section
variable (P:Program) (ty:Tys) (tt:TypeId→Option TT)
def segT (m:Nat) (ops:Array Oper) (k:Nat) (te:List TV) (tS:List TB):Option RR:=runT P ty tt ops none ((ops.toList.drop k).take m) k te tS
def segD (m:Nat) (ops:Array Oper) (n0:Nat) (k:Nat) (te:List TV) (tS:List TB):Option RR:=runT P ty tt ops (some n0) ((ops.toList.drop k).take m) k te tS
def segQ (m:Nat) (ops:Array Oper) (k:Nat) (te:List TV) (tS:List TB):Option (Nat×List TV×Prop):=runTQ P ty tt ops tS ((ops.toList.drop k).take m) k te
def callT (ops:Array Oper) (k:Nat) (te:List TV):Option (FuncId×List TV×Option Tmp) :=
 match ops[k]? with
 | some o=>match o.op,wantedT ops te o with
  | .call { callee := .value f,args,argTypes },some true=>match evT te f,evsT te args.toList with
   | some (.fn g fs cs),some xs=>if (fs++xs++cs).all pureB then some (g,normL (argTys tt fs argTypes) (fs++xs++cs),o.dst) else none
   | _,_=>none
  | _,_=>none
 | none=>none
def refOf:List TV→Option Nat
 | []=>none
 | v::l=>match refs v with
  | k::_=>if isRef v then some k else refOf l
  | []=>refOf l
def pcallT (ops:Array Oper) (k:Nat) (te:List TV) (tS:List TB):Option (FuncId×Nat×List TV×List TV×Option Tmp) :=
 match ops[k]? with
 | some o=>match o.op,wantedT ops te o with
  | .call { callee := .value f,args,argTypes },some true=>match evT te f,evsT te args.toList with
   | some (.fn g fs cs),some xs=>match refOf (fs++xs++cs) with
    | some kp=>match argsP kp (argTys tt fs argTypes) (fs++xs++cs),tS[kp]? with
     | some targs,some (.cells ts)=>if (fs++xs++cs).any isRef&&(refsL ts).isEmpty then some (g,kp,targs,ts,o.dst) else none
     | _,_=>none
    | none=>none
   | _,_=>none
  | _,_=>none
 | none=>none
end
variable {P:Program} {ty:Tys} {tt:TypeId→Option TT} {ι ι' w:Ids} {S S':Store} {te te1:List TV} {env:List DV} {tS tS1:List TB} {iso:IsoF} {call:CallF} {yf:YldF} {o:Oper} {nid nT B:Nat} {r:TR} {ops:Array Oper} {L:Nat} {fn:FuncId} {rnd:Bool} {a b c:Code} {Q Q':DX→List TV→List TB→Prop}
theorem mask_le:∀ (ks:List Nat) (i:Nat) (l:List TV),LeL (maskE ks i l) l
 | _,_,[] => .nil
 | ks,i,v::l=>by
  simp only[maskE]
  split
  ·exact .same (mask_le ks (i+1) l)
  ·exact .unk (mask_le ks (i+1) l)
theorem rel_mask (h:RelT ι te tS env S) (ks:List Nat):RelT ι (maskE ks 0 te) tS env S:=⟨leL_ok (mask_le ks 0 te) h.env,h.cells,h.own,h.dom,h.inj⟩
theorem wl_seg (m:Nat) {k k':Nat} {te':List TV} {tS':List TB} {cp:Prop} {Q:List TV→List TB→Prop} (hz:(segT P ty tt m ops k te tS).map (fun z=>(z.k,z.te,z.tS,z.c))=some (k',te',tS',cp)) (hc:cp) (h:WL P ty iso call yf B ops k' te' tS' Q):WL P ty iso call yf B ops k te tS Q:=by
 simp only[Option.map_eq_some_iff,Prod.mk.injEq] at hz
 obtain⟨z,hz,rfl,rfl,rfl,rfl⟩:=hz
 exact wl_run m hz hc h
theorem wl_icall {k:Nat} {g:FuncId} {targs:List TV} {dst:Option Tmp} {K:TV→Prop} {Q:List TV→List TB→Prop} (hz:callT tt ops k te=some (g,targs,dst)) (hs:ISpec iso g targs K) (h:∀ v,K v→WL P ty iso call yf B ops (k+1) (putTV te dst v) tS Q):WL P ty iso call yf B ops k te tS Q:=by
 unfold callT at hz
 split at hz
 ·rename_i o ho
  split at hz
  ·rename_i f args argTypes hop hw
   split at hz
   ·rename_i g' fs cs xs hf ha
    split at hz
    ·rename_i hp
     cases hz
     refine wl_op ho hw (does_icall hop hf ha hp rfl hs false) ?_
     rintro v te' tS' ft ⟨hv,rfl,rfl,-⟩
     exact h v hv
    ·cases hz
   ·cases hz
  ·cases hz
 ·cases hz
theorem wl_pcall {k kp:Nat} {g:FuncId} {targs ts:List TV} {dst:Option Tmp} {K:TV→List TV→Prop} {Q:List TV→List TB→Prop} (hz:pcallT tt ops k te tS=some (g,kp,targs,ts,dst)) (hs:CSpec call g targs ts K) (h:∀ v ts',K v ts'→WL P ty iso call yf B ops (k+1) (putTV te dst v) (tS.set kp (.cells ts')) Q):WL P ty iso call yf B ops k te tS Q:=by
 unfold pcallT at hz
 split at hz
 ·rename_i o ho
  split at hz
  ·rename_i f args argTypes hop hw
   split at hz
   ·rename_i g' fs' cs' xs hf ha
    split at hz
    ·rename_i kp' hkp
     split at hz
     ·rename_i targs' ts0 hta hts
      split at hz
      ·rename_i hp
       simp only[Bool.and_eq_true,List.isEmpty_iff] at hp
       cases hz
       refine wl_op ho hw (does_pcall hop hf ha hta hp.1 hts hp.2 hs false) ?_
       rintro v te' tS' ft ⟨ts',hv,rfl,rfl,-⟩
       exact h v ts' hv
      ·cases hz
     ·cases hz
    ·cases hz
   ·cases hz
  ·cases hz
 ·cases hz
theorem wl_done {k:Nat} (ks:List Nat) (hk:ops.size=k) (he:(maskE ks 0 te,trimT tS)=(te1,tS1)) {Q:List TV→List TB→Prop} (h:Q te1 tS1):WL P ty iso call yf B ops k te tS Q:=by
 cases he
 intro ι env S hR hB
 rw[List.drop_eq_nil_of_le (by simp; omega)]
 exact⟨env,S,ι,_,_,rfl,rel_trim (rel_mask hR ks),bok_trim hB,Fr.refl _ _ _,nn_refl _ _,h⟩
theorem wt_reg {id:Nat} (ks:List Nat) {cp:Prop} (hz:(segT P ty tt 1000 ops 0 te tS).map (fun z=>(z.k,maskE ks 0 z.te,trimT z.tS,z.c))=some (ops.size,te1,tS1,cp)) (hc:cp) (h:Q .normal te1 tS1):WT P ty iso call yf B L fn rnd (.region id ops false) te tS Q:=by
 simp only[Option.map_eq_some_iff,Prod.mk.injEq] at hz
 obtain⟨z,hz,h1,rfl,rfl,rfl⟩:=hz
 intro ι env S hR hB
 obtain⟨e,env',S',ι',te',tS',k1,k2,k3,k4,k5,k6⟩:=wt_plain (P:=P) (ty:=ty) (iso:=iso) (call:=call) (yf:=yf) (B:=B) (L:=L) (fn:=fn) (rnd:=rnd) (id:=id) (ops:=ops) (te:=te) (tS:=tS) (Q:=fun e te' tS'=>e = .normal∧te'=z.te∧tS'=trimT z.tS) (wl_run 1000 hz hc (wl_end (by omega) ⟨rfl,rfl,rfl⟩)) ι env S hR hB
 obtain⟨rfl,rfl,rfl⟩:=k6
 exact⟨.normal,env',S',ι',_,_,k1,rel_mask k2 ks,k3,k4,k5,h⟩
theorem wt_regL {id:Nat} (h:WL P ty iso call yf B ops 0 te tS fun te tS=>Q .normal te (trimT tS)):WT P ty iso call yf B L fn rnd (.region id ops false) te tS Q:=wt_plain h
theorem wq_seg (m:Nat) {k k':Nat} {te':List TV} {cp:Prop} {Q:List TV→Prop} (hz:segQ P ty tt m ops k te tS=some (k',te',cp)) (hc:cp) (h:WQ P ty iso call yf ops tS k' te' Q):WQ P ty iso call yf ops tS k te Q:=wq_run m hz hc h
theorem wq_call {k:Nat} {g:FuncId} {targs:List TV} {dst:Option Tmp} {K:TV→Prop} {Q:List TV→Prop} (hz:callT tt ops k te=some (g,targs,dst)) (hs:ISpec iso g targs K) (h:∀ v,K v→WQ P ty iso call yf ops tS (k+1) (putTV te dst v) Q):WQ P ty iso call yf ops tS k te Q:=by
 unfold callT at hz
 split at hz
 ·rename_i o ho
  split at hz
  ·rename_i f args argTypes hop hw
   split at hz
   ·rename_i g' fs cs xs hf ha
    split at hz
    ·rename_i hp
     cases hz
     exact wq_icall ho hw hop hf ha hp rfl hs h
    ·cases hz
   ·cases hz
  ·cases hz
 ·cases hz
theorem wq_done {k:Nat} (ks:List Nat) (hk:ops.size=k) (he:maskE ks 0 te=te1) {Q:List TV→Prop} (h:Q te1):WQ P ty iso call yf ops tS k te Q:=by
 subst he
 intro ι env S hR
 rw[List.drop_eq_nil_of_le (by simp; omega)]
 exact⟨env,_,rfl,rel_mask hR ks,h⟩
variable {fs:List Foot}
theorem wd_seg (m:Nat) {k k' n0:Nat} {te':List TV} {tS':List TB} {fs':List Foot} {cp:Prop} {Q:List TV→List TB→Prop} (hz:segD P ty tt m ops n0 k te tS=some ⟨k',te',tS',fs',cp⟩) (hc:cp) (h:WD P ty iso call yf B ops k' te' tS' (fs++fs') Q):WD P ty iso call yf B ops k te tS fs Q:=wd_run m hz hc h
theorem wd_icall {k nT:Nat} {g:FuncId} {targs:List TV} {dst:Option Tmp} {K:TV→Prop} {Q:List TV→List TB→Prop} (hz:callT tt ops k te=some (g,targs,dst)) (hnew:newB tS (nT+k)=true) (hs:ISpec iso g targs K) (h:∀ v,K v→WD P ty iso call yf B ops (k+1) (putTV te dst v) tS (fs++[⟨some [],false⟩]) Q):WD P ty iso call yf B ops k te tS fs Q:=by
 unfold callT at hz
 split at hz
 ·rename_i o ho
  split at hz
  ·rename_i f args argTypes hop hw
   split at hz
   ·rename_i g' fs' cs xs hf ha
    split at hz
    ·rename_i hp
     cases hz
     refine wd_op ho hw hnew (does_icall hop hf ha hp rfl hs true) ?_
     rintro v te' tS' ft ⟨hv,rfl,rfl,rfl⟩
     exact h v hv
    ·cases hz
   ·cases hz
  ·cases hz
 ·cases hz
theorem wd_done {k:Nat} (ks:List Nat) (hk:ops.size=k) (he:(maskE ks 0 te,trimT tS)=(te1,tS1)) {Q:List TV→List TB→Prop} (hm:metOk (Region.before ops) fs=true) (h:Q te1 tS1):WD P ty iso call yf B ops k te tS fs Q:=by
 cases he
 intro ι w env S n0 hR hB hw hn
 rw[List.drop_eq_nil_of_le (by simp; omega)]
 exact⟨env,S,[],ι,w,_,_,[],rfl,trivial,fun _ _=>rfl,by simpa using hm,rel_trim (rel_mask hR ks),bok_trim hB,Fr.refl _ _ _,⟨Nat.le_refl _,fun _ _ h=>h⟩,h⟩
def WI (P:Program) (ty:Tys) (iso:IsoF) (call:CallF) (yf:YldF) (B L:Nat) (fn:FuncId) (rnd:Bool) (n:Nat) (c:Code) (te:List TV) (tS:List TB) (Q:DX→List TV→List TB→Prop):Prop :=
 ∀ ι env S,RelT ι te tS env S→BOK B tS→∃ e env' S' ι' te' tS',iterD (codeD P ty iso call yf L fn rnd c) n env S=some (e,env',S')∧RelT ι' te' tS' env' S'∧BOK B tS'∧Fr B ι S ι' S'∧Nn S.length S S'∧Q e te' tS'
theorem iter_more {f:List DV→Store→Option (DX×List DV×Store)}:∀ {n m:Nat} {env:List DV} {S:Store} {r:DX×List DV×Store},n≤m→iterD f n env S=some r→iterD f m env S=some r
 | 0,_,_,_,_,_,h=>by cases h
 | n+1,0,_,_,_,hn,_=>by omega
 | n+1,m+1,env,S,r,hn,h=>by
  simp only[iterD] at h ⊢
  split at h
  ·rename_i env' S' e
   exact iter_more (by omega) h
  ·exact h
theorem wt_unroll {n:Nat} (hn:n≤L) (h:WI P ty iso call yf B L fn rnd n c te tS Q):WT P ty iso call yf B L fn rnd (.loop c) te tS Q:=by
 intro ι env S hR hB
 obtain⟨e,env',S',ι',te',tS',h1,h2⟩:=h ι env S hR hB
 exact⟨e,env',S',ι',te',tS',by simp only[codeD]; exact iter_more hn h1,h2⟩
theorem wi_step {n:Nat} (h:WT P ty iso call yf B L fn rnd c te tS fun e te tS=>match e with | .normal=>WI P ty iso call yf B L fn rnd n c te tS Q | e=>Q e te tS):WI P ty iso call yf B L fn rnd (n+1) c te tS Q:=by
 intro ι env S hR hB
 obtain⟨e,env',S',ι',te',tS',h1,h2,h3,h4,h5,h6⟩:=h ι env S hR hB
 cases e with
 | normal =>
  obtain⟨e,env'',S'',ι'',te'',tS'',k1,k2,k3,k4,k5,k6⟩:=h6 ι' env' S' h2 h3
  exact⟨e,env'',S'',ι'',te'',tS'',by simp only[iterD,h1,k1],k2,k3,h4.trans k4,nn_trans h5 k5,k6⟩
 | exit id=>exact⟨_,env',S',ι',te',tS',by simp only[iterD,h1],h2,h3,h4,h5,h6⟩
 | ret=>exact⟨_,env',S',ι',te',tS',by simp only[iterD,h1],h2,h3,h4,h5,h6⟩
theorem wl_told {k:Nat} {Q:List TV→List TB→Prop} (he:te=te1) (h:WL P ty iso call yf B ops k te1 tS Q):WL P ty iso call yf B ops k te tS Q:=he▸h
theorem wq_told {k:Nat} {Q:List TV→Prop} (he:te=te1) (h:WQ P ty iso call yf ops tS k te1 Q):WQ P ty iso call yf ops tS k te Q:=he▸h
def relab (t:TT) (g:Nat):TV→TV
 | .nils => .sl t [] (.lab g)
 | .sl k l .full => .sl k l (.lab g)
 | v=>v
def relabE (ls:List (Nat×TT×Nat)):Nat→List TV→List TV
 | _,[]=>[]
 | i,v::l=>(match ls.find? fun p=>p.1==i with
  | some p=>relab p.2.1 p.2.2 v
  | none=>v)::relabE ls (i+1) l
def relabB (rl:List (Nat×List (Nat×TT×Nat))):Nat→List TB→List TB
 | _,[]=>[]
 | i,.cells c::l => .cells (match rl.find? fun p=>p.1==i with
  | some p=>relabE p.2 0 c
  | none=>c)::relabB rl (i+1) l
 | i,b::l=>b::relabB rl (i+1) l
def fitB (rl:List (Nat×List (Nat×TT×Nat))) (n:Nat) (owns:List (Nat×Nat)) (tS:List TB):List TB :=
 if owns.isEmpty||tS.length≤n then relabB rl 0 (tS.take n)++owns.map fun p => .own p.1 p.2 else []
theorem relab_le (ls:List (Nat×TT×Nat)):∀ (i:Nat) (l:List TV),LeL (relabE ls i l) l
 | _,[] => .nil
 | i,v::l=>by
  have ih:=relab_le ls (i+1) l
  simp only[relabE]
  split
  ·rename_i p _
   cases v<;>simp only[relab]<;>first | exact .same ih | exact .nils ih | skip
   rename_i k x ap
   cases ap<;>first | exact .same ih | exact .lab ih
  ·exact .same ih
theorem leB_owns:∀ owns:List (Nat×Nat),LeB (owns.map fun p=>TB.own p.1 p.2) []
 | [] => .nil
 | _::l => .new (leB_owns l)
theorem leB_tail {owns:List (Nat×Nat)} {rl:List (Nat×List (Nat×TT×Nat))}:∀ (i:Nat) (l m:List TB),(owns=[]∨m=[])→LeB (relabB rl i l++owns.map fun p=>TB.own p.1 p.2) (l++m)
 | i,[],m,h=>by
  rcases h with rfl | rfl
  ·exact .nil
  ·exact leB_owns owns
 | i,b::l,m,h=>by
  have ih:=leB_tail (rl:=rl) (i+1) l m h
  cases b with
  | none=>exact .none ih
  | own e s=>exact .own ih
  | cells c =>
   simp only[relabB,List.cons_append]
   refine .cells ?_ ih
   split
   ·exact relab_le _ 0 c
   ·exact LeL.refl c
theorem LeL.trans {l m k:List TV} (h:LeL l m):∀ (ks:List Nat) (i:Nat),m=maskE ks i k→LeL l k:=by
 induction h generalizing k with
 | nil =>
  intro ks i e
  cases k with
  | nil=>exact .nil
  | cons=>simp only[maskE] at e; cases e
 | unk _ ih=>intro ks i e; cases k with | nil=>simp only[maskE] at e; cases e | cons v k=>simp only[maskE,List.cons.injEq] at e; exact .unk (ih ks (i+1) e.2)
 | same _ ih =>
  intro ks i e
  cases k with
  | nil=>simp only[maskE] at e; cases e
  | cons v k =>
   simp only[maskE,List.cons.injEq] at e
   obtain⟨rfl,e⟩:=e
   split
   ·exact .same (ih ks (i+1) e)
   ·exact .unk (ih ks (i+1) e)
 | no _ ih =>
  intro ks i e
  cases k with
  | nil=>simp only[maskE] at e; cases e
  | cons v k =>
   simp only[maskE,List.cons.injEq] at e
   obtain⟨e1,e⟩:=e
   split at e1
   ·subst e1; exact .no (ih ks (i+1) e)
   ·cases e1
 | lab _ ih =>
  intro ks i e
  cases k with
  | nil=>simp only[maskE] at e; cases e
  | cons v k =>
   simp only[maskE,List.cons.injEq] at e
   obtain⟨e1,e⟩:=e
   split at e1
   ·subst e1; exact .lab (ih ks (i+1) e)
   ·cases e1
 | nils _ ih =>
  intro ks i e
  cases k with
  | nil=>simp only[maskE] at e; cases e
  | cons v k =>
   simp only[maskE,List.cons.injEq] at e
   obtain⟨e1,e⟩:=e
   split at e1
   ·subst e1; exact .nils (ih ks (i+1) e)
   ·cases e1
 | agg ha _ _ ih =>
  intro ks i e
  cases k with
  | nil=>simp only[maskE] at e; cases e
  | cons v k =>
   simp only[maskE,List.cons.injEq] at e
   obtain⟨e1,e⟩:=e
   split at e1
   ·subst e1; exact .agg ha (ih ks (i+1) e)
   ·cases e1
theorem fits_of (ks:List Nat) (ls:List (Nat×TT×Nat)) (rl:List (Nat×List (Nat×TT×Nat))) (n:Nat) (owns:List (Nat×Nat)) (hl:relabE ls 0 (maskE ks 0 te)=te1) (hb:fitB rl n owns tS=tS1) (ho:(owns.isEmpty||tS.length≤n)=true) (hok:okB te1 tS1=true) (hB:(List.range B).all (liveB tS1)=true):Fits B te1 tS1 te tS:=by
 subst hl
 refine⟨(relab_le ls 0 _).trans ks 0 rfl,?_,hok,fun k hk=>List.all_eq_true.1 hB k (List.mem_range.2 hk)⟩
 subst hb
 unfold fitB
 rw[if_pos (by simpa using ho)]
 have:=leB_tail (owns:=owns) (rl:=rl) 0 (tS.take n) (tS.drop n) (by
  simp only[Bool.or_eq_true,List.isEmpty_iff,decide_eq_true_eq] at ho
  exact ho.imp id fun h=>List.drop_eq_nil_of_le h)
 rwa [List.take_append_drop] at this
end Go.Tv
end
section
namespace Go.Tv
open Go Go.Di Go.Proofs
abbrev I64 : TT := .int .i64
abbrev IntsT : TT := .sl I64
abbrev PieceT : TT := .pair IntsT (.pair IntsT (.pair I64 (.pair IntsT .unit)))
abbrev RangeT : TT := .pair I64 (.pair I64 .unit)
abbrev SeamT : TT := .pair I64 (.pair I64 (.pair I64 .unit))
def ttL : List (Nat × TT) := [(3, I64), (4, .bool), (30, I64), (22, IntsT), (26, PieceT), (28, .sl PieceT), (43, RangeT), (52, .sl RangeT), (78, .int .u64), (71, SeamT), (33, .sl SeamT), (98, SeamT), (58, .sl SeamT), (61, .sl IntsT), (9, .str)]
def ttb (t : TypeId) : Option TT := (ttL.find? fun p => p.1 == t).map (·.2)
abbrev vv := TV.val
abbrev vi := Value.int IntKind.i64
abbrev vb := Value.bool
abbrev ival (n : Int) : TV := .val (.int .i64 n)
abbrev bval (b : Bool) : TV := .val (.bool b)
noncomputable abbrev Tp : Program := Try.prog
noncomputable abbrev Ty : Tys := tyOf Try.prog
def LL : Nat := 1000000
structure TabK (tab : IsoF) : Prop where
 other : ∀ f a, f ≠ 51 → f ≠ 110 → f ≠ 17 → tab f a = none
 fit : tab 17 [] = some (.val (.bool true))
section
variable (tab : IsoF) (n : Nat)
noncomputable abbrev isoT : IsoF := isoN Tp Ty tab LL n
noncomputable abbrev callT' : CallF := callN Tp Ty tab LL n
noncomputable abbrev yfT : YldF := yfN Tp Ty tab LL n
end
theorem wr_i64 {n : Int} (h : -9223372036854775808 ≤ n) (h' : n ≤ 9223372036854775807) : IntKind.i64.wrap n = n := by rw [IntKind.wrap_i64]; omega
theorem beq_of {a b : Int} (h : (a == b) = true) : a = b := by simpa using h
theorem bne_of' {a b : Int} (h : (a != b) = true) : a ≠ b := by simpa using h
theorem beq_of' {a b : Int} (h : (a != b) = false) : a = b := by simpa using h
theorem bne_of {a b : Int} (h : (a == b) = false) : a ≠ b := by simpa using h
end Go.Tv
end
section
namespace Go.Tv
open Go Go.Di Go.Proofs
variable {iso:IsoF} {call:CallF} {yf:YldF} {B L:Nat} {fn:FuncId} {rnd:Bool} {ops:Array Oper} {te:List TV} {tS:List TB} {k:Nat}
def Tru:Nat→Prop
 | 0=>True
 | n+1=>True∧Tru n
theorem tru:∀ n,Tru n
 | 0=>trivial
 | n+1=>⟨trivial,tru n⟩
theorem zl (k' n:Nat) (te':List TV) (tS':List TB) {Q:List TV→List TB→Prop} (hz:(segT Tp Ty ttb 1000 ops k te tS).map (fun z=>(z.k,z.te,z.tS,z.c))=some (k',te',tS',Tru n)) (h:WL Tp Ty iso call yf B ops k' te' tS' Q):WL Tp Ty iso call yf B ops k te tS Q:=wl_seg 1000 hz (tru n) h
theorem ze (ks:List Nat) (n:Nat) (te1:List TV) (tS1:List TB) {Q:List TV→List TB→Prop} (hz:(segT Tp Ty ttb 1000 ops k te tS).map (fun z=>(z.k,maskE ks 0 z.te,trimT z.tS,z.c))=some (ops.size,te1,tS1,Tru n)) (h:Q te1 tS1):WL Tp Ty iso call yf B ops k te tS Q:=by
 simp only[Option.map_eq_some_iff,Prod.mk.injEq] at hz
 obtain⟨z,hz,h1,h3,h4,h2⟩:=hz
 exact wl_run 1000 hz (h2▸tru n) (wl_done ks h1.symm (by rw[h3,h4]) h)
theorem zr {id:Nat} (ks:List Nat) (n:Nat) (te1:List TV) (tS1:List TB) {Q:DX→List TV→List TB→Prop} (hz:(segT Tp Ty ttb 1000 ops 0 te tS).map (fun z=>(z.k,maskE ks 0 z.te,trimT z.tS,z.c))=some (ops.size,te1,tS1,Tru n)) (h:Q .normal te1 tS1):WT Tp Ty iso call yf B L fn rnd (.region id ops false) te tS Q:=wt_reg ks hz (tru n) h
theorem zq (k' n:Nat) (te':List TV) {Q:List TV→Prop} (hz:segQ Tp Ty ttb 1000 ops k te tS=some (k',te',Tru n)) (h:WQ Tp Ty iso call yf ops tS k' te' Q):WQ Tp Ty iso call yf ops tS k te Q:=wq_seg 1000 hz (tru n) h
theorem zqe (ks:List Nat) (n:Nat) (te1:List TV) {Q:List TV→Prop} (hz:(segQ Tp Ty ttb 1000 ops k te tS).map (fun z=>(z.1,maskE ks 0 z.2.1,z.2.2))=some (ops.size,te1,Tru n)) (h:Q te1):WQ Tp Ty iso call yf ops tS k te Q:=by
 simp only[Option.map_eq_some_iff,Prod.mk.injEq] at hz
 obtain⟨⟨k1,t1,c1⟩,hz,h1,h3,h2⟩:=hz
 simp only at h1 h2 h3
 exact wq_seg 1000 hz (h2▸tru n) (wq_done ks h1.symm h3 h)
end Go.Tv
end
section
namespace Go.Tv
open Go Go.Di
def NSpec (iso:IsoF) (call:CallF) (g:FuncId) (targs:List TV) (Q:List TV→Prop):Prop :=
 ∀ dargs S,RTl noIds S targs dargs→(∀ ds,RTl noIds [] targs ds→iso g ds=none)∧∃ S' id ds ts,call g dargs S=some (.ptr id 0,S')∧¬ Lv S id∧S'[id]? = some (.cells ds)∧RTl noIds [] ts ds∧refsL ts=[]∧(∀ k',Lv S k'→S'[k']? = S[k']?)∧Nn S.length S S'∧Q ts
theorem NSpec.mono {iso:IsoF} {call:CallF} {g:FuncId} {targs:List TV} {Q Q':List TV→Prop} (h:NSpec iso call g targs Q) (hq:∀ v,Q v→Q' v):NSpec iso call g targs Q':=fun dargs S hd=>by
 obtain⟨h0,S',id,ds,ts,h1,h2,h3,h4,h5,h6,h7,h8⟩:=h dargs S hd
 exact⟨h0,S',id,ds,ts,h1,h2,h3,h4,h5,h6,h7,hq _ h8⟩
variable {P:Program} {ty:Tys} {tt:TypeId→Option TT} {ι ι' w:Ids} {S S':Store} {te te1:List TV} {env:List DV} {tS tS1:List TB} {iso:IsoF} {call:CallF} {yf:YldF} {o:Oper} {nid nT B:Nat} {r:TR} {ops:Array Oper}
theorem does_ncall {f:Operand} {args:Array Operand} {argTypes:Array TypeId} {g:FuncId} {fs cs xs targs:List TV} {Q:List TV→Prop} (hop:o.op = .call { callee := .value f,args,argTypes }) (hf:evT te f=some (.fn g fs cs)) (ha:evsT te args.toList=some xs) (hp:(fs++xs++cs).all pureB=true)
  (hn:normL (argTys tt fs argTypes) (fs++xs++cs)=targs) (hs:NSpec iso call g targs Q):Does P ty iso call yf B o nT te tS false fun v te' tS' _=>∃ ts,Q ts∧v = .ptr nT 0∧te'=te∧tS'=setT tS nT (.cells ts):=by
 intro ι w env S nid hR hB hw hT hnd hS
 obtain⟨fs',cs',xs',k1,k2,k3⟩:=icall_args hR.env hf ha
 obtain⟨k4,k5⟩:=normL_strip (ts:=argTys tt fs argTypes) (ι':=noIds) (S':=[]) hp k3
 have k6:=normL_plain (ts:=argTys tt fs argTypes) (ι':=noIds) (S':=S) hp k3
 rw[hn] at k5 k6
 obtain⟨h0,S',id,ds,ts,m1,m2,m3,m4,m5,m6,m7,m8⟩:=hs _ S k6
 have hne:∀ {k k':Nat},ι k=some k'→k'≠id:=fun hk e=>m2 (e▸hR.live hk)
 have hnew:ι nT=none:=hR.new hT
 have K:Keeps ι S (upd ι nT id) S' fun _=>False:=fun k k' _ hk=>by
  have h1:k≠nT:=by rintro rfl; rw[hnew] at hk; cases hk
  exact⟨by simp only[upd,h1,if_false]; exact hk,fun e s n hs=>by rw[m6 k' (hR.live hk)]; exact hs⟩
 refine⟨.ptr id 0,S',upd ι nT id,fun j=>if j=id then some nT else w j,.ptr nT 0,te,setT tS nT (.cells ts),⟨none,true⟩,⟨none,true⟩,?_,fun e=>(by cases e),⟨fun e=>e,fun l hl=>(by cases hl)⟩,fun l m hl=>(by cases hl),?_,by simp[RT,upd],?_,?_,?_,bok_setT hB hT,⟨m7.1,fun j hj hnone=>m7.2 j (by have:=(List.getElem?_eq_some_iff.1 hnone).1; omega) hnone⟩,ts,m8,rfl,rfl,rfl⟩
 ·simp only[stepOp,hop,k1,k2,callD,k4,if_true,h0 _ k5,m1]
 ·refine⟨rtl_mono K _ _ hR.env,fun k l hk => ?_,fun k e s hk t ht => ?_,fun k k' hk => ?_,fun i j k' hi hj => ?_⟩
  ·rw[setT_get hT] at hk
   split at hk
   ·rename_i e
    subst e
    cases hk
    exact⟨id,ds,by simp[upd],m3,rtl_norefs _ _ m5 m4⟩
   ·rename_i e
    obtain⟨k',ds',h1,h2,h3⟩:=hR.cells k l hk
    exact⟨k',ds',by simp only[upd,e,if_false]; exact h1,by rw[m6 k' (hR.live h1)]; exact h2,rtl_mono K _ _ h3⟩
  ·rw[setT_get hT] at hk
   split at hk
   ·cases hk
   ·rename_i e'
    simp only[upd,e',if_false] at ht
    obtain⟨n,h1⟩:=hR.own k e s hk t ht
    exact⟨n,by rw[m6 t (hR.live ht)]; exact h1⟩
  ·rw[setT_get hT]
   split
   ·exact⟨_,rfl,fun e=>by cases e⟩
   ·rename_i e
    simp only[upd,e,if_false] at hk
    exact hR.dom k k' hk
  ·unfold upd at hi hj
   split at hi<;>split at hj
   ·omega
   ·cases hi; exact(hne hj rfl).elim
   ·cases hj; exact(hne hi rfl).elim
   ·exact hR.inj i j k' hi hj
 ·intro a b hab
  unfold upd at hab
  split at hab
  ·rename_i e; subst e; cases hab; simp
  ·simp only[hne hab,if_false]; exact hw _ _ hab
 ·intro e; cases e
 ·refine⟨fun k' hl _=>m6 k' hl,fun k k' hk => ?_,fun k hk => ?_⟩
  ·unfold upd at hk
   split at hk
   ·cases hk; exact .inr m2
   ·exact .inl ⟨k,hk⟩
  ·have:=bok_new hB hT
   unfold upd
   rw[if_neg (by omega)]
theorem wl_ncall {k:Nat} {g:FuncId} {targs:List TV} {dst:Option Tmp} {K:List TV→Prop} {Q:List TV→List TB→Prop} (hz:callT tt ops k te=some (g,targs,dst)) (hs:NSpec iso call g targs K) (h:∀ ts,K ts→WL P ty iso call yf B ops (k+1) (putTV te dst (.ptr tS.length 0)) (tS++[.cells ts]) Q):WL P ty iso call yf B ops k te tS Q:=by
 unfold callT at hz
 split at hz
 ·rename_i o ho
  split at hz
  ·rename_i f args argTypes hop hw
   split at hz
   ·rename_i g' fs cs xs hf ha
    split at hz
    ·rename_i hp
     cases hz
     refine wl_op ho hw (does_ncall hop hf ha hp rfl hs) ?_
     rintro v te' tS' ft ⟨ts,hq,rfl,rfl,rfl⟩
     have e:setT tS tS.length (.cells ts)=tS++[.cells ts]:=by unfold setT; rw[if_neg (Nat.lt_irrefl _)]
     rw[e]
     exact h ts hq
    ·cases hz
   ·cases hz
  ·cases hz
 ·cases hz
def EndN (ty:Tys) (rs:List ResultVar) (cts:List (Option TT)) (Q:List TV→Prop) (e:DX) (te:List TV) (tS:List TB):Prop :=
 (match e with | .exit _=>False | _=>True)∧∃ ts,resT ty te tS rs=some [.ptr 0 0]∧tS[0]? = some (.cells ts)∧ts.all pureB=true∧refsL (normL cts ts)=[]∧Q (normL cts ts)
theorem nspec_of {tab:IsoF} {L n:Nat} {f:FuncId} {fn:Func} {c:Code} {targs:List TV} {cts:List (Option TT)} {Q:List TV→Prop} (hf:P.funcs[f]? = some fn) (hb:fn.body=some c) (ht:∀ a,tab f a=none)
  (h:WT P ty (isoN P ty tab L n) (callN P ty tab L n) (yfN P ty tab L n) 0 L f false c (targs++List.replicate (fn.ntmps-targs.length) .unk) [] (EndN ty fn.results.toList cts Q)):NSpec (isoN P ty tab L (n+1)) (callN P ty tab L (n+1)) f targs Q:=by
 have key:∀ dargs S,RTl noIds S targs dargs→∃ S' id ds ts,(deepP P ty tab L (n+1)).1 f dargs S=some (.ptr id 0,S')∧¬ Lv S id∧S'[id]? = some (.cells ds)∧RTl noIds [] ts ds∧refsL ts=[]∧(∀ k',Lv S k'→S'[k']? = S[k']?)∧Nn S.length S S'∧Q ts:=by
  intro dargs S hd
  have hlen:=rtl_len hd
  have hR:RelT noIds (targs++List.replicate (fn.ntmps-targs.length) .unk) [] (dargs++List.replicate (fn.ntmps-dargs.length) dundef) S:=by
   refine⟨rtl_append hd (by rw[hlen]; exact rtl_rep _ _),fun k l hk=>(by simp at hk),fun k e s hk=>(by simp at hk),fun k k' hk=>(by cases hk),fun i j k' hi=>(by cases hi)⟩
  obtain⟨e,env',S',ι',te',tS',h1,h2,h3,h4,h5,h6⟩:=h noIds _ S hR (fun k hk=>(by omega))
  obtain⟨h6,ts,h7,h8,h9,h10,h11⟩:=h6
  obtain⟨ds,k1,k2⟩:=resT_ok h2 h7
  obtain⟨d,m',rfl,k3,k4⟩:=rtl_cases k2
  rw[rtl_nil' k4] at k1
  cases d<;>simp only[RT] at k3
  rename_i id off
  obtain⟨k3,rfl⟩:=k3
  obtain⟨id',ds',m1,m2,m3⟩:=h2.cells 0 ts h8
  rw[k3] at m1
  cases m1
  refine⟨S',id,ds',normL cts ts,?_,?_,m2,normL_plain h9 m3,h10,fun k' hl=>h4.rest k' hl (fun k hk=>by cases hk),h5,h11⟩
  ·simp only[deepP,hf,bodyD,hb]
   have h1':codeD P ty (isoOf tab (deepP P ty tab L n).1) (deepP P ty tab L n).1 (deepP P ty tab L n).2 L f false c (dargs++List.replicate (fn.ntmps-dargs.length) dundef) S=some (e,env',S'):=h1
   rw[h1']
   cases e with
   | normal=>simp only[k1,Option.map_some,oneOf]
   | ret=>simp only[k1,Option.map_some,oneOf]
   | exit id=>exact h6.elim
  ·rcases h4.ours 0 id k3 with ⟨j,hj⟩ | hl
   ·cases hj
   ·exact hl
 intro dargs S hd
 refine⟨fun ds hds => ?_,key dargs S hd⟩
 obtain⟨S',id,ds',ts,k1,-⟩:=key ds [] hds
 simp only[isoN,isoOf,ht,k1,DV.strip,DV.strip2,DV.pure,DV.pure2,Bool.false_eq_true,if_false]
end Go.Tv
end
section
namespace Go.Tv
open Go Go.Di Go.Proofs
set_option maxRecDepth 100000
theorem getD_at {l:List Int} {i:Nat} (h:i<l.length):l.getD i 0=l[i]:=by simp[List.getD_eq_getElem?_getD,h]
theorem take_one {l:List Int} {i:Nat} (h:i<l.length):l.take (i+1)=l.take i++[l.getD i 0]:=by
 rw[getD_at h,List.take_append_getElem]
theorem drop_one {l:List Int} {i:Nat} (h:i<l.length):(l.drop (i+1)).reverse++[l.getD i 0]=(l.drop i).reverse:=by
 rw[getD_at h,List.drop_eq_getElem_cons h,List.reverse_cons]
theorem mem_getD {l:List Int} {i:Nat} (h:i<l.length):l.getD i 0∈l:=by
 rw[getD_at h]; exact List.getElem_mem _
def indexI (l:List Int) (x:Int):Int:=if x∈l then (l.idxOf x:Int) else -1
theorem indexI_at {l:List Int} {x:Int} {i:Nat} (h:i<l.length) (h1:x ∉ l.take i) (h2:l.getD i 0=x):indexI l x=i:=by
 have hm:x∈l:=by rw[← h2]; exact mem_getD h
 have e:l=l.take i++x::l.drop (i+1):=by
  rw[← h2,getD_at h,← List.drop_eq_getElem_cons h,List.take_append_drop]
 rw[indexI,if_pos hm]
 congr 1
 conv=>lhs; rw[e]
 rw[List.idxOf_append,if_neg h1,List.idxOf_cons_self,List.length_take]
 omega
theorem spec_53 {tab:IsoF} (tk:TabK tab) {n:Nat} (l:List Int) (x:Int) (hl:l.length≤1000):ISpec (isoT tab (n+1)) 53 ([.sl I64 l .no,ival x]) (fun v=>v=bval (decide (x∈l))):=by
 refine ispec_of (fn:=Try.f53) (rts:=[some .bool]) Try.func53 rfl (fun _=>tk.other _ _ (by decide) (by decide) (by decide)) ?_
 show WT _ _ _ _ _ _ _ _ _ _ (mkE 18 [(0,TV.sl I64 l Ap.no),(1,vv (vi x))]) [] _
 refine wt_seq ?_
 refine zr [0,1,4] 1 (mkE 18 [(0,TV.sl I64 l Ap.no),(1,vv (vi x)),(4,vv (vb false))]) [] (by kernel_rfl) ?_
 refine wt_seq ?_
 refine wt_seq ?_
 refine zr [0,1,4,5] 1 (mkE 18 [(0,.sl I64 l .no),(1,vv (vi x)),(4,vv (vb false)),(5,vv (vi 0))]) [] (by kernel_rfl) ?_
 refine wt_block ?_
 refine wt_loop (σ:=Nat) (fun(i:Nat)=>(mkE 18 [(0,.sl I64 l .no),(1,ival x),(5,ival (i:Nat))],([]:List TB))) (fun(i:Nat)=>i≤l.length∧x ∉ l.take i) (fun(i:Nat)=>l.length-i) (0) (fits_of [0,1,5] [] [] 100 [] (by kernel_rfl) (by kernel_rfl) (by kernel_rfl) (by kernel_rfl) (by kernel_rfl)) (by (try dsimp only); simp) (by (try dsimp only); unfold LL; omega) ?_
 intro i hg
 have hg:i≤l.length∧x ∉ l.take i:=hg
 show WT _ _ _ _ _ _ _ _ _ _ (mkE 18 [(0,.sl I64 l .no),(1,vv (vi x)),(5,vv (vi (↑i:Int)))]) [] _
 refine wt_seq ?_
 refine wt_seq ?_
 refine zr [0,1,5,9] 4 (mkE 18 [(0,.sl I64 l .no),(1,vv (vi x)),(5,vv (vi (↑i:Int))),(9,vv (vb (decide ((↑i:Int)<(↑l.length:Int)))))]) [] (by kernel_rfl) ?_
 refine wt_cond (t:=decide ((↑i:Int)<(↑l.length:Int))) (by kernel_rfl) (fun hc => ?_) (fun hc => ?_)
 ·skip
  have hc:=of_decide_eq_true hc
  refine wt_skip ?_
  refine wt_seq ?_
  refine wt_block ?_
  refine wt_seq ?_
  refine wt_reg (P:=Tp) (ty:=Ty) (tt:=ttb) [0,1,5,17] (te1:=(mkE 18 [(0,.sl I64 l .no),(1,vv (vi x)),(5,vv (vi (↑i:Int))),(17,vv (vb (l.getD i 0==x)))])) (tS1:=[]) (cp:=True∧True∧((0:Int)≤(↑i:Int)∧(↑i:Int)<(↑l.length:Int))∧True∧True∧True∧True) (by kernel_rfl) (by simp only[true_and,and_true]; first | omega | (simp; omega) | (simp; done)) ?_
  refine wt_cond (t:=l.getD i 0==x) (by kernel_rfl) (fun hc1 => ?_) (fun hc1 => ?_)
  ·skip
   have hc1:=beq_of hc1
   refine wt_seq ?_
   refine zr [0,1,4,5] 1 (mkE 18 [(0,.sl I64 l .no),(1,vv (vi x)),(4,vv (vb true)),(5,vv (vi (↑i:Int)))]) [] (by kernel_rfl) ?_
   refine wt_ret ?_
   refine⟨trivial,[vv (vb true)],by kernel_rfl,by kernel_rfl,by kernel_rfl,?_⟩
   have h3:x∈l:=by rw[← hc1]; exact mem_getD (by omega)
   show bval true=bval (decide (x∈l)); rw[decide_eq_true h3]
  ·skip
   have hc1:=bne_of hc1
   refine wt_skip ?_
   refine zr [0,1,5] 3 (mkE 18 [(0,.sl I64 l .no),(1,vv (vi x)),(5,vv (vi (IntKind.i64.wrap ((↑i:Int)+(1:Int)))))]) [] (by kernel_rfl) ?_
   rw[wr_i64 (n:=(↑i:Int)+(1:Int)) (by omega) (by omega)]
   refine⟨i+1,fits_of [0,1,5] [] [] 100 [] (by kernel_rfl) (by kernel_rfl) (by kernel_rfl) (by kernel_rfl) (by kernel_rfl),(by (try dsimp only); rw[take_one (by omega)]; simp only[List.mem_append,List.mem_singleton,not_or]; exact⟨by omega,hg.2,fun e=>hc1 e.symm⟩),(by (try dsimp only); omega)⟩
 ·skip
  have hc:=of_decide_eq_false hc
  refine wt_exit ?_
  refine wt_seq ?_
  refine zr [0,1,4,5] 1 (mkE 18 [(0,.sl I64 l .no),(1,vv (vi x)),(4,vv (vb false)),(5,vv (vi (↑i:Int)))]) [] (by kernel_rfl) ?_
  refine wt_ret ?_
  refine⟨trivial,[vv (vb false)],by kernel_rfl,by kernel_rfl,by kernel_rfl,?_⟩
  have h2:i=l.length:=by omega
  have h3:=hg.2; rw[h2,List.take_length] at h3; show bval false=bval (decide (x∈l)); rw[decide_eq_false h3]
theorem spec_52 {tab:IsoF} (tk:TabK tab) {n:Nat} (l:List Int) (hl:l.length≤1000):ISpec (isoT tab (n+1)) 52 ([.sl I64 l .no]) (fun v=>v = .sl I64 l.reverse .no):=by
 refine ispec_of (fn:=Try.f52) (rts:=[some IntsT]) Try.func52 rfl (fun _=>tk.other _ _ (by decide) (by decide) (by decide)) ?_
 show WT _ _ _ _ _ _ _ _ _ _ (mkE 20 [(0,TV.sl I64 l Ap.no)]) [] _
 refine wt_seq ?_
 refine zr [0,2] 1 (mkE 20 [(0,TV.sl I64 l Ap.no),(2,TV.sl I64 [] Ap.full)]) [] (by kernel_rfl) ?_
 refine wt_seq ?_
 refine zr [0,2,3] 1 (mkE 20 [(0,TV.sl I64 l Ap.no),(2,TV.sl I64 [] Ap.full),(3,TV.sl I64 [] Ap.full)]) [] (by kernel_rfl) ?_
 refine wt_seq ?_
 refine wt_seq ?_
 refine zr [0,2,3,4] 4 (mkE 20 [(0,.sl I64 l .no),(2,.sl I64 [] Ap.full),(3,.sl I64 [] Ap.full),(4,vv (vi (IntKind.i64.wrap ((↑l.length:Int)-(1:Int)))))]) [] (by kernel_rfl) ?_
 rw[wr_i64 (n:=(↑l.length:Int)-(1:Int)) (by omega) (by omega)]
 refine wt_block ?_
 refine wt_loop (σ:=Nat) (fun(i:Nat)=>(mkE 20 [(0,.sl I64 l .no),(3,.sl I64 ((l.drop i).reverse) (.lab 0)),(4,ival ((i:Nat)-1:Int))],([.own 3 1]:List TB))) (fun(i:Nat)=>i≤l.length) (fun(i:Nat)=>i) (l.length) (fits_of [0,3,4] [(3,I64,0)] [] 0 [(3,1)] (by simp only[List.drop_length,List.reverse_nil]; kernel_rfl) (by kernel_rfl) (by kernel_rfl) (by kernel_rfl) (by kernel_rfl)) (by (try dsimp only); omega) (by (try dsimp only); unfold LL; omega) ?_
 intro i hg
 have hg:i≤l.length:=hg
 show WT _ _ _ _ _ _ _ _ _ _ (mkE 20 [(0,.sl I64 l .no),(3,.sl I64 (List.drop i l).reverse (Ap.lab 0)),(4,vv (vi ((↑i:Int)-(1:Int))))]) [TB.own 3 1] _
 refine wt_seq ?_
 refine wt_seq ?_
 refine zr [0,3,4,9] 2 (mkE 20 [(0,.sl I64 l .no),(3,.sl I64 (List.drop i l).reverse (Ap.lab 0)),(4,vv (vi ((↑i:Int)-(1:Int)))),(9,vv (vb (decide ((↑i:Int)-(1:Int)≥(0:Int)))))]) [TB.own 3 1] (by kernel_rfl) ?_
 refine wt_cond (t:=decide ((↑i:Int)-(1:Int)≥(0:Int))) (by kernel_rfl) (fun hc => ?_) (fun hc => ?_)
 ·skip
  have hc:=of_decide_eq_true hc
  refine wt_skip ?_
  refine wt_seq ?_
  refine wt_block ?_
  refine wt_reg (P:=Tp) (ty:=Ty) (tt:=ttb) [0,3,4] (te1:=(mkE 20 [(0,.sl I64 l .no),(3,.sl I64 ((List.drop i l).reverse++[l.getD ((↑i:Int)-(1:Int)).toNat (0:Int)]) (Ap.lab 0)),(4,vv (vi ((↑i:Int)-(1:Int))))])) (tS1:=[TB.own 3 1]) (cp:=True∧True∧True∧((0:Int)≤(↑i:Int)-(1:Int)∧(↑i:Int)-(1:Int)<(↑l.length:Int))∧True∧True∧(List.drop i l).reverse.length+1≤1000000000∧True∧True) (by kernel_rfl) (by simp only[true_and,and_true]; first | omega | (simp; omega) | (simp; done)) ?_
  refine zr [0,3,4] 3 (mkE 20 [(0,.sl I64 l .no),(3,.sl I64 ((List.drop i l).reverse++[l.getD ((↑i:Int)-(1:Int)).toNat (0:Int)]) (Ap.lab 0)),(4,vv (vi (IntKind.i64.wrap ((↑i:Int)-(1:Int)-(1:Int)))))]) [TB.own 3 1] (by kernel_rfl) ?_
  rw[wr_i64 (n:=(↑i:Int)-(1:Int)-(1:Int)) (by omega) (by omega)]
  refine⟨i-1,fits_of [0,3,4] [] [] 1 [] (by obtain⟨j,rfl⟩:∃ j,i=j+1:=⟨i-1,by omega⟩; rw[show ((j+1:Nat):Int)-1=(j:Int) by omega,Int.toNat_natCast,drop_one (by omega)]; kernel_rfl) (by kernel_rfl) (by kernel_rfl) (by kernel_rfl) (by kernel_rfl),(by (try dsimp only); omega),(by (try dsimp only); omega)⟩
 ·skip
  have hc:=of_decide_eq_false hc
  refine wt_exit ?_
  refine wt_seq ?_
  refine zr [0,2,3,4] 2 (mkE 20 [(0,.sl I64 l .no),(2,.sl I64 (List.drop i l).reverse (Ap.lab 0)),(3,.sl I64 (List.drop i l).reverse (Ap.lab 0)),(4,vv (vi ((↑i:Int)-(1:Int))))]) [TB.own 3 1] (by kernel_rfl) ?_
  refine wt_ret ?_
  refine⟨trivial,[.sl I64 (List.drop i l).reverse (Ap.lab 0)],by kernel_rfl,by kernel_rfl,by kernel_rfl,?_⟩
  have h:i=0:=by omega
  subst h; show TV.sl I64 (List.drop 0 l).reverse .no=_; rw[List.drop_zero]
theorem spec_29 {tab:IsoF} (tk:TabK tab) {n:Nat} (l:List Int) (x:Int) (hl:l.length≤1000):ISpec (isoT tab (n+1)) 29 ([.sl I64 l .no,ival x]) (fun v=>v=ival (indexI l x)):=by
 refine ispec_of (fn:=Try.f29) (rts:=[some I64]) Try.func29 rfl (fun _=>tk.other _ _ (by decide) (by decide) (by decide)) ?_
 show WT _ _ _ _ _ _ _ _ _ _ (mkE 25 [(0,TV.sl I64 l Ap.no),(1,vv (vi x))]) [] _
 refine wt_seq ?_
 refine zr [0,1,4] 1 (mkE 25 [(0,.sl I64 l .no),(1,vv (vi x)),(4,vv (vi 0))]) [] (by kernel_rfl) ?_
 refine wt_seq ?_
 refine zr [0,1,4,5] 1 (mkE 25 [(0,.sl I64 l .no),(1,vv (vi x)),(4,vv (vi 0)),(5,vv (vi 0))]) [] (by kernel_rfl) ?_
 refine wt_seq ?_
 refine wt_block ?_
 refine wt_loop (σ:=Nat) (fun(i:Nat)=>(mkE 25 [(0,.sl I64 l .no),(1,ival x),(5,ival (i:Nat))],([]:List TB))) (fun(i:Nat)=>i≤l.length∧x ∉ l.take i) (fun(i:Nat)=>l.length-i) (0) (fits_of [0,1,5] [] [] 100 [] (by kernel_rfl) (by kernel_rfl) (by kernel_rfl) (by kernel_rfl) (by kernel_rfl)) (by (try dsimp only); simp) (by (try dsimp only); unfold LL; omega) ?_
 intro i hg
 have hg:i≤l.length∧x ∉ l.take i:=hg
 show WT _ _ _ _ _ _ _ _ _ _ (mkE 25 [(0,.sl I64 l .no),(1,vv (vi x)),(5,vv (vi (↑i:Int)))]) [] _
 refine wt_seq ?_
 refine wt_seq ?_
 refine wt_regL ?_
 refine wl_seg 5 (P:=Tp) (ty:=Ty) (tt:=ttb) (k':=5) (te':=(mkE 25 [(0,.sl I64 l .no),(1,vv (vi x)),(5,vv (vi (↑i:Int))),(6,vv (vi (↑i:Int))),(7,.sl I64 l .no),(8,vv (vi (↑l.length:Int))),(9,vv (vb (decide ((↑i:Int)<(↑l.length:Int))))),(10,vv (vb (decide ((↑i:Int)<(↑l.length:Int)))))])) (tS':=[]) (cp:=True∧True∧True∧True∧True∧True) (by kernel_rfl) ⟨trivial,⟨trivial,⟨trivial,⟨trivial,⟨trivial,trivial⟩⟩⟩⟩⟩ ?_
 refine(Bool.eq_false_or_eq_true (decide ((↑i:Int)<(↑l.length:Int)))).elim (fun hb => ?_) (fun hb => ?_)
 ·skip
  refine wl_told (te1:=(mkE 25 [(0,.sl I64 l .no),(1,vv (vi x)),(5,vv (vi (↑i:Int))),(6,vv (vi (↑i:Int))),(7,.sl I64 l .no),(8,vv (vi (↑l.length:Int))),(9,vv (vb true)),(10,vv (vb true))])) (by rw[hb]) ?_
  have hb:=of_decide_eq_true hb
  refine wl_seg 1000 (P:=Tp) (ty:=Ty) (tt:=ttb) (k':=12) (te':=(mkE 25 [(0,.sl I64 l .no),(1,vv (vi x)),(5,vv (vi (↑i:Int))),(6,vv (vi (↑i:Int))),(7,.sl I64 l .no),(8,vv (vi (↑l.length:Int))),(9,vv (vb true)),(10,vv (vb true)),(11,.sl I64 l .no),(12,vv (vi (↑i:Int))),(13,.eptr I64 l i 0),(14,vv (vi (l.getD i 0))),(15,vv (vi x)),(16,vv (vb (l.getD i 0!=x))),(17,vv (vb (l.getD i 0!=x)))])) (tS':=[]) (cp:=True∧True∧((0:Int)≤(↑i:Int)∧(↑i:Int)<(↑l.length:Int))∧True∧True∧True∧True∧True) (by kernel_rfl) (by simp only[true_and,and_true]; first | omega | (simp; omega) | (simp; done)) ?_
  refine wl_done (te1:=(mkE 25 [(0,.sl I64 l .no),(1,vv (vi x)),(5,vv (vi (↑i:Int))),(17,vv (vb (l.getD i 0!=x)))])) (tS1:=[]) [0,1,5,17] (by kernel_rfl) (by kernel_rfl) ?_
  refine wt_cond (t:=l.getD i 0!=x) (by kernel_rfl) (fun hc => ?_) (fun hc => ?_)
  ·skip
   have hc:=bne_of' hc
   refine wt_skip ?_
   refine wt_block ?_
   refine zr [0,1,5] 3 (mkE 25 [(0,.sl I64 l .no),(1,vv (vi x)),(5,vv (vi (IntKind.i64.wrap ((↑i:Int)+(1:Int)))))]) [] (by kernel_rfl) ?_
   rw[wr_i64 (n:=(↑i:Int)+(1:Int)) (by omega) (by omega)]
   refine⟨i+1,fits_of [0,1,5] [] [] 100 [] (by kernel_rfl) (by kernel_rfl) (by kernel_rfl) (by kernel_rfl) (by kernel_rfl),(by (try dsimp only); rw[take_one (by omega)]; simp only[List.mem_append,List.mem_singleton,not_or]; exact⟨by omega,hg.2,fun e=>hc e.symm⟩),(by (try dsimp only); omega)⟩
  ·skip
   have hc:=beq_of' hc
   refine wt_exit ?_
   refine wt_seq ?_
   refine wt_seq ?_
   refine zr [0,1,5,23] 4 (mkE 25 [(0,.sl I64 l .no),(1,vv (vi x)),(5,vv (vi (↑i:Int))),(23,vv (vb ((↑i:Int)==(↑l.length:Int))))]) [] (by kernel_rfl) ?_
   refine wt_cond (t:=(↑i:Int)==(↑l.length:Int)) (by kernel_rfl) (fun hc1 => ?_) (fun hc1 => ?_)
   ·skip
    have hc1:=beq_of hc1
    exfalso; omega
   ·skip
    have hc1:=bne_of hc1
    refine wt_skip ?_
    refine wt_seq ?_
    refine zr [0,1,4,5] 2 (mkE 25 [(0,.sl I64 l .no),(1,vv (vi x)),(4,vv (vi (↑i:Int))),(5,vv (vi (↑i:Int)))]) [] (by kernel_rfl) ?_
    refine wt_ret ?_
    refine⟨trivial,[vv (vi (↑i:Int))],by kernel_rfl,by kernel_rfl,by kernel_rfl,?_⟩
    show ival i=ival (indexI l x); rw[indexI_at (by omega) hg.2 hc]
 ·skip
  refine wl_told (te1:=(mkE 25 [(0,.sl I64 l .no),(1,vv (vi x)),(5,vv (vi (↑i:Int))),(6,vv (vi (↑i:Int))),(7,.sl I64 l .no),(8,vv (vi (↑l.length:Int))),(9,vv (vb false)),(10,vv (vb false))])) (by rw[hb]) ?_
  have hb:=of_decide_eq_false hb
  refine ze [0,1,5,17] 1 (mkE 25 [(0,.sl I64 l .no),(1,vv (vi x)),(5,vv (vi (↑i:Int))),(17,vv (vb false))]) [] (by kernel_rfl) ?_
  refine wt_cond (t:=false) (by kernel_rfl) (fun hno=>(by cases hno)) (fun _ => ?_)
  refine wt_exit ?_
  refine wt_seq ?_
  refine wt_seq ?_
  refine zr [0,1,5,23] 4 (mkE 25 [(0,.sl I64 l .no),(1,vv (vi x)),(5,vv (vi (↑i:Int))),(23,vv (vb ((↑i:Int)==(↑l.length:Int))))]) [] (by kernel_rfl) ?_
  refine wt_cond (t:=(↑i:Int)==(↑l.length:Int)) (by kernel_rfl) (fun hc => ?_) (fun hc => ?_)
  ·skip
   have hc:=beq_of hc
   refine wt_seq ?_
   refine zr [0,1,4,5] 1 (mkE 25 [(0,.sl I64 l .no),(1,vv (vi x)),(4,vv (vi (-1:Int))),(5,vv (vi (↑i:Int)))]) [] (by kernel_rfl) ?_
   refine wt_ret ?_
   refine⟨trivial,[vv (vi (-1:Int))],by kernel_rfl,by kernel_rfl,by kernel_rfl,?_⟩
   have h:i=l.length:=by omega
   have h3:=hg.2; rw[h,List.take_length] at h3; show ival (-1)=ival (indexI l x); rw[indexI,if_neg h3]
  ·skip
   have hc:=bne_of hc
   exfalso; omega
end Go.Tv
end
