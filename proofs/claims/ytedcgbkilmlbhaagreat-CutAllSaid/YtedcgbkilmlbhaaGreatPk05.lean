import Derived.Test.YtedcgbkilmlbhaaGreatPk04
import Derived.Test.YtedcgbkilmlbhaaGreatChecked
import Derived.KernelRfl
import Derived.Laws.BitsLemmas
import Derived.Laws.StructEq
section
namespace Go.Tv
open Go Go.Di
def resT1 (ty:Tys) (te:List TV) (tS:List TB):ResultVar→Option TV
 | .tmp t=>some (te.getD t .unk)
 | .cell a t=>match ty t,te.getD a .unk with
  | some d,.ptr id off=>match tS[id]? with
   | some (.cells l)=>partT d.k.isAgg d.size l off
   | _=>none
  | _,_=>none
def resT (ty:Tys) (te:List TV) (tS:List TB):List ResultVar→Option (List TV)
 | []=>some []
 | x::r=>match resT1 ty te tS x,resT ty te tS r with
  | some v,some l=>some (v::l)
  | _,_=>none
def oneV:List TV→TV
 | [d]=>d
 | l => .tup l
variable {P:Program} {ty:Tys} {tt:TypeId→Option TT} {ι ι' w:Ids} {S S':Store} {te te1:List TV} {env:List DV} {tS tS1:List TB} {iso:IsoF} {call:CallF} {yf:YldF} {o:Oper} {nid nT:Nat} {B:List Nat} {r:TR} {ops:Array Oper}
theorem resT_ok (h:RelT ι te tS env S):∀ {rs:List ResultVar} {vs:List TV},resT ty te tS rs=some vs→∃ ds,resD ty env S rs=some ds∧RTl ι S vs ds
 | [],vs,hx=>by cases hx; exact⟨[],rfl,rtl_nil⟩
 | x::r,vs,hx=>by
  simp only[resT] at hx
  split at hx
  ·rename_i v l h1 h2
   cases hx
   obtain⟨ds,k1,k2⟩:=resT_ok h h2
   cases x with
   | tmp t =>
    cases h1
    exact⟨_,by simp only[resD,k1,Option.map_some],rtl_cons (rtl_getD h.env t) k2⟩
   | cell a t =>
    simp only[resT1] at h1
    split at h1
    ·rename_i d id off e1 e2
     split at h1
     ·rename_i l' e3
      have hg:=rtl_getD h.env a
      rw[e2] at hg
      generalize hd:env.getD a dundef=da at hg
      cases da<;>simp only[RT] at hg
      obtain⟨g1,rfl⟩:=hg
      obtain⟨id',ds',m1,m2,m3⟩:=h.cells id l' e3
      rw[g1] at m1
      cases m1
      obtain⟨q,m4,m5⟩:=partT_ok m3 h1
      exact⟨q::ds,by simp only[resD,hd,loadD,e1,m2,m4,k1],rtl_cons m5 k2⟩
     ·cases h1
    ·cases h1
  ·cases hx
theorem one_strip {ts:List (Option TT)} {vs:List TV} {ds:List DV} (hp:vs.all pureB=true) (h:RTl ι S vs ds):(oneOf ds).strip.pure=true∧RT ι' S' (oneV (normL ts vs)) (oneOf ds).strip:=by
 have many:∀ {ts:List (Option TT)} {l:List TV} {m:List DV},l.all pureB=true→RTl ι S l m→(m.map DV.strip2).all DV.pure2=true∧RTl ι' S' (normL ts l) (m.map DV.strip2):=by
  intro ts l
  induction l generalizing ts with
  | nil=>intro m _ h; rw[rtl_nil' h]; cases ts<;>exact⟨rfl,by simp only[normL,List.map_nil]; exact rtl_nil⟩
  | cons a l ih =>
   intro m hp h
   obtain⟨d,m',rfl,h1,h2⟩:=rtl_cases h
   simp only[List.all_cons,Bool.and_eq_true] at hp
   cases ts with
   | nil =>
    obtain⟨k1,k0,k2⟩:=norm_strip (t:=none) (ι':=ι') (S':=S') hp.1 h1
    obtain⟨k3,k4⟩:=ih (ts:=[]) hp.2 h2
    have e:d.strip=d.strip2:=by cases d<;>first | rfl | exact(k0 _ rfl).elim
    rw[e] at k1 k2
    have e2:d.strip2.pure2=true:=by cases d<;>first | exact k1 | exact(k0 _ rfl).elim
    exact⟨by rw[List.map_cons,List.all_cons,e2,k3]; rfl,by simp only[normL,List.map_cons]; exact rtl_cons k2 k4⟩
   | cons t ts =>
    obtain⟨k1,k0,k2⟩:=norm_strip (t:=t) (ι':=ι') (S':=S') hp.1 h1
    obtain⟨k3,k4⟩:=ih (ts:=ts) hp.2 h2
    have e:d.strip=d.strip2:=by cases d<;>first | rfl | exact(k0 _ rfl).elim
    rw[e] at k1 k2
    have e2:d.strip2.pure2=true:=by cases d<;>first | exact k1 | exact(k0 _ rfl).elim
    exact⟨by rw[List.map_cons,List.all_cons,e2,k3]; rfl,by simp only[normL,List.map_cons]; exact rtl_cons k2 k4⟩
 match vs,ds,hp,h with
 | [],ds,_,h=>rw[rtl_nil' h]; cases ts<;>exact⟨rfl,by simp only[normL,oneV,oneOf,DV.strip,RT,List.map_nil]; exact rtl_nil⟩
 | [v],ds,hp,h =>
  obtain⟨d,m',rfl,h1,h2⟩:=rtl_cases h
  rw[rtl_nil' h2]
  simp only[List.all_cons,List.all_nil,Bool.and_true] at hp
  cases ts with
  | nil =>
   obtain⟨k1,k0,k2⟩:=norm_strip (t:=none) (ι':=ι') (S':=S') hp h1
   exact⟨k1,k2⟩
  | cons t ts =>
   obtain⟨k1,k0,k2⟩:=norm_strip (t:=t) (ι':=ι') (S':=S') hp h1
   cases ts<;>exact⟨k1,k2⟩
 | v::u::l,ds,hp,h =>
  obtain⟨k1,k2⟩:=many (ts:=ts) hp h
  obtain⟨d,m',rfl,h1,h2⟩:=rtl_cases h
  obtain⟨d',m'',rfl,h3,h4⟩:=rtl_cases h2
  refine⟨k1,?_⟩
  have e:∀ {ts:List (Option TT)},oneV (normL ts (v::u::l)) = .tup (normL ts (v::u::l)):=by
   intro ts
   cases ts with
   | nil=>simp only[normL,oneV]
   | cons t ts=>cases ts<;>simp only[normL,oneV]
  rw[e]
  simp only[oneOf,DV.strip,RT]
  exact k2
theorem one_plain {ts:List (Option TT)} {vs:List TV} {ds:List DV} (hp:vs.all pureB=true) (h:RTl ι S vs ds):RT ι' S' (oneV (normL ts vs)) (oneOf ds):=by
 have k:=normL_plain (ts:=ts) (ι':=ι') (S':=S') hp h
 match vs,ds,hp,h,k with
 | [],ds,_,h,k=>rw[rtl_nil' h]; cases ts<;>(simp only[normL,oneV,oneOf,RT]; exact rtl_nil)
 | [v],ds,hp,h,k =>
  obtain⟨d,m',rfl,h1,h2⟩:=rtl_cases h
  rw[rtl_nil' h2] at k ⊢
  cases ts with
  | nil=>simp only[normL] at k ⊢; obtain⟨_,_,e,k1,-⟩:=rtl_cases k; cases e; exact k1
  | cons t ts=>cases ts<;>(simp only[normL] at k ⊢; obtain⟨_,_,e,k1,-⟩:=rtl_cases k; cases e; exact k1)
 | v::u::l,ds,hp,h,k =>
  obtain⟨d,m',rfl,h1,h2⟩:=rtl_cases h
  obtain⟨d',m'',rfl,h3,h4⟩:=rtl_cases h2
  have e:∀ {ts:List (Option TT)},oneV (normL ts (v::u::l)) = .tup (normL ts (v::u::l)):=by
   intro ts
   cases ts with
   | nil=>simp only[normL,oneV]
   | cons t ts=>cases ts<;>simp only[normL,oneV]
  rw[e]
  simp only[oneOf,RT]
  exact k
section
variable (P:Program) (ty:Tys) (tab:IsoF) (L:Nat)
def isoN (n:Nat):IsoF:=isoOf tab (deepP P ty tab L n).1
def callN (n:Nat):CallF:=(deepP P ty tab L n).1
def yfN (n:Nat):YldF:=(deepP P ty tab L n).2
end
def EndI (ty:Tys) (rs:List ResultVar) (rts:List (Option TT)) (Q:TV→Prop) (e:DX) (te:List TV) (tS:List TB):Prop :=
 (match e with | .exit _=>False | _=>True)∧∃ vs,resT ty te tS rs=some vs∧vs.all pureB=true∧refs (oneV (normL rts vs))=[]∧Q (oneV (normL rts vs))
theorem ispec_of {tab:IsoF} {L n:Nat} {f:FuncId} {fn:Func} {c:Code} {targs:List TV} {rts:List (Option TT)} {Q:TV→Prop} (hf:P.funcs[f]? = some fn) (hb:fn.body=some c) (ht:∀ a,tab f a=none)
  (h:WT P ty (isoN P ty tab L n) (callN P ty tab L n) (yfN P ty tab L n) [] L f false c (targs++List.replicate (fn.ntmps-targs.length) .unk) [] (EndI ty fn.results.toList rts Q)):ISpec (isoN P ty tab L (n+1)) f targs Q:=by
 intro dargs hd
 have hlen:=rtl_len hd
 have hR:RelT noIds (targs++List.replicate (fn.ntmps-targs.length) .unk) [] (dargs++List.replicate (fn.ntmps-dargs.length) dundef) []:=by
  refine⟨rtl_append hd (by rw[hlen]; exact rtl_rep _ _),fun k l hk=>(by simp at hk),fun k e s hk=>(by simp at hk),fun k k' hk=>(by cases hk),fun i j k' hi=>(by cases hi)⟩
 obtain⟨e,env',S',ι',te',tS',h1,h2,h3,h4,h5,h6⟩:=h noIds _ [] hR (fun k hk=>(by cases hk))
 obtain⟨h6,vs,h7,h8,h9,h10⟩:=h6
 obtain⟨ds,k1,k2⟩:=resT_ok h2 h7
 obtain⟨k3,k4⟩:=one_strip (ts:=rts) (ι':=noIds) (S':=[]) h8 k2
 refine⟨(oneOf ds).strip,_,?_,k3,k4,h9,h10⟩
 have hc:(deepP P ty tab L (n+1)).1 f dargs []=some (oneOf ds,S'):=by
  simp only[deepP,hf,bodyD,hb]
  have h1':codeD P ty (isoOf tab (deepP P ty tab L n).1) (deepP P ty tab L n).1 (deepP P ty tab L n).2 L f false c (dargs++List.replicate (fn.ntmps-dargs.length) dundef) []=some (e,env',S'):=h1
  rw[h1']
  cases e with
  | normal=>simp only[k1,Option.map_some]
  | ret=>simp only[k1,Option.map_some]
  | exit id=>exact h6.elim
 simp only[isoN,isoOf,ht,hc,k3,if_true]
def EndC (ty:Tys) (rs:List ResultVar) (rts:List (Option TT)) (cts:List (Option TT)) (Q:TV→List TV→Prop) (e:DX) (te:List TV) (tS:List TB):Prop :=
 (match e with | .exit _=>False | _=>True)∧∃ vs ts,resT ty te tS rs=some vs∧vs.all pureB=true∧refs (oneV (normL rts vs))=[]∧tS[0]? = some (.cells ts)∧ts.all pureB=true∧refsL (normL cts ts)=[]∧Q (oneV (normL rts vs)) (normL cts ts)
theorem cspec_of {tab:IsoF} {L n:Nat} {f:FuncId} {fn:Func} {c:Code} {targs ts:List TV} {rts cts:List (Option TT)} {Q:TV→List TV→Prop} (hf:P.funcs[f]? = some fn) (hb:fn.body=some c)
  (h:WT P ty (isoN P ty tab L n) (callN P ty tab L n) (yfN P ty tab L n) [0] L f false c (targs++List.replicate (fn.ntmps-targs.length) .unk) [.cells ts] (EndC ty fn.results.toList rts cts Q)):CSpec (callN P ty tab L (n+1)) f targs ts Q:=by
 intro ι dargs S hR
 have hlen:=rtl_len hR.env
 have hR':RelT ι (targs++List.replicate (fn.ntmps-targs.length) .unk) [.cells ts] (dargs++List.replicate (fn.ntmps-dargs.length) dundef) S :=
  ⟨rtl_append hR.env (by rw[hlen]; exact rtl_rep _ _),hR.cells,hR.own,hR.dom,hR.inj⟩
 obtain⟨e,env',S',ι',te',tS',h1,h2,h3,h4,h5,h6⟩:=h ι _ S hR' (fun k hk=>(by
  have:k=0:=by simpa using hk
  subst this
  exact⟨ts,rfl⟩))
 obtain⟨h6,vs,ts',h7,h8,h9,h10,h11,h12,h13⟩:=h6
 obtain⟨ds,k1,k2⟩:=resT_ok h2 h7
 obtain⟨k',ds',m1,m2,m3⟩:=h2.cells 0 ts' h10
 refine⟨oneOf ds,S',ι',_,normL cts ts',k',ds',?_,one_plain (ts:=rts) h8 k2,h9,h12,by rw[← h4.base 0 (by simp)]; exact m1,m2,normL_plain h11 m3,h4,h5,h13⟩
 simp only[callN,deepP,hf,bodyD,hb]
 have h1':codeD P ty (isoOf tab (deepP P ty tab L n).1) (deepP P ty tab L n).1 (deepP P ty tab L n).2 L f false c (dargs++List.replicate (fn.ntmps-dargs.length) dundef) S=some (e,env',S'):=h1
 rw[h1']
 cases e with
 | normal=>simp only[k1,Option.map_some]
 | ret=>simp only[k1,Option.map_some]
 | exit id=>exact h6.elim
end Go.Tv
end
section
namespace Go.Tv
open Go Go.Di
def mkE (n:Nat) (l:List (Nat×TV)):List TV:=(List.range n).map fun i=>match l.find? fun p=>p.1==i with
 | some p=>p.2
 | none => .unk
def maskE (ks:List Nat):Nat→List TV→List TV
 | _,[]=>[]
 | i,v::l=>(if ks.contains i then v else .unk)::maskE ks (i+1) l
def andC (a b:Prop):Prop:=a∧b
section
variable (P:Program) (ty:Tys) (tt:TypeId→Option TT)
def segT (m:Nat) (ops:Array Oper) (k:Nat) (te:List TV) (tS:List TB):Option RR:=runT P ty tt ops none ((ops.toList.drop k).take m) k te tS
def segD (m:Nat) (ops:Array Oper) (n0:Nat) (k:Nat) (te:List TV) (tS:List TB):Option RR:=runT P ty tt ops (some n0) ((ops.toList.drop k).take m) k te tS
def segQ (m:Nat) (ops:Array Oper) (k:Nat) (te:List TV) (tS:List TB):Option (Nat×List TV×Prop):=runTQ P ty tt ops tS ((ops.toList.drop k).take m) k te
def callT (ops:Array Oper) (k:Nat) (te:List TV):Option (FuncId×List TV×Option Tmp) :=
 match ops[k]? with
 | some o=>match o.op,wantedT ops te o with
  | .call { callee := .value f,args,argTypes },some true=>match evT te f,evsT te args.toList with
   | some (.fn g fs cs),some xs=>if (fs++xs++cs).all pureB then some (g,normL (argTys tt fs argTypes) (fs++xs++cs),o.dst) else none
   | _,_=>none
  | _,_=>none
 | none=>none
def refOf:List TV→Option Nat
 | []=>none
 | v::l=>match refs v with
  | k::_=>if isRef v then some k else refOf l
  | []=>refOf l
def pcallT (ops:Array Oper) (k:Nat) (te:List TV) (tS:List TB):Option (FuncId×Nat×List TV×List TV×Option Tmp) :=
 match ops[k]? with
 | some o=>match o.op,wantedT ops te o with
  | .call { callee := .value f,args,argTypes },some true=>match evT te f,evsT te args.toList with
   | some (.fn g fs cs),some xs=>match refOf (fs++xs++cs) with
    | some kp=>match argsP kp (argTys tt fs argTypes) (fs++xs++cs),tS[kp]? with
     | some targs,some (.cells ts)=>if (fs++xs++cs).any isRef&&(refsL ts).isEmpty then some (g,kp,targs,ts,o.dst) else none
     | _,_=>none
    | none=>none
   | _,_=>none
  | _,_=>none
 | none=>none
end
variable {P:Program} {ty:Tys} {tt:TypeId→Option TT} {ι ι' w:Ids} {S S':Store} {te te1:List TV} {env:List DV} {tS tS1:List TB} {iso:IsoF} {call:CallF} {yf:YldF} {o:Oper} {nid nT:Nat} {B:List Nat} {r:TR} {ops:Array Oper} {L:Nat} {fn:FuncId} {rnd:Bool} {a b c:Code} {Q Q':DX→List TV→List TB→Prop}
variable {fs:List Foot}
def WI (P:Program) (ty:Tys) (iso:IsoF) (call:CallF) (yf:YldF) (B:List Nat) (L:Nat) (fn:FuncId) (rnd:Bool) (n:Nat) (c:Code) (te:List TV) (tS:List TB) (Q:DX→List TV→List TB→Prop):Prop :=
 ∀ ι env S,RelT ι te tS env S→BOK B tS→∃ e env' S' ι' te' tS',iterD (codeD P ty iso call yf L fn rnd c) n env S=some (e,env',S')∧RelT ι' te' tS' env' S'∧BOK B tS'∧Fr B ι S ι' S'∧Nn S.length S S'∧Q e te' tS'
theorem iter_more {f:List DV→Store→Option (DX×List DV×Store)}:∀ {n m:Nat} {env:List DV} {S:Store} {r:DX×List DV×Store},n≤m→iterD f n env S=some r→iterD f m env S=some r
 | 0,_,_,_,_,_,h=>by cases h
 | n+1,0,_,_,_,hn,_=>by omega
 | n+1,m+1,env,S,r,hn,h=>by
  simp only[iterD] at h ⊢
  split at h
  ·rename_i env' S' e
   exact iter_more (by omega) h
  ·exact h
theorem wt_unroll {n:Nat} (hn:n≤L) (h:WI P ty iso call yf B L fn rnd n c te tS Q):WT P ty iso call yf B L fn rnd (.loop c) te tS Q:=by
 intro ι env S hR hB
 obtain⟨e,env',S',ι',te',tS',h1,h2⟩:=h ι env S hR hB
 exact⟨e,env',S',ι',te',tS',by simp only[codeD]; exact iter_more hn h1,h2⟩
theorem wi_step {n:Nat} (h:WT P ty iso call yf B L fn rnd c te tS fun e te tS=>match e with | .normal=>WI P ty iso call yf B L fn rnd n c te tS Q | e=>Q e te tS):WI P ty iso call yf B L fn rnd (n+1) c te tS Q:=by
 intro ι env S hR hB
 obtain⟨e,env',S',ι',te',tS',h1,h2,h3,h4,h5,h6⟩:=h ι env S hR hB
 cases e with
 | normal =>
  obtain⟨e,env'',S'',ι'',te'',tS'',k1,k2,k3,k4,k5,k6⟩:=h6 ι' env' S' h2 h3
  exact⟨e,env'',S'',ι'',te'',tS'',by simp only[iterD,h1,k1],k2,k3,h4.trans k4,nn_trans h5 k5,k6⟩
 | exit id=>exact⟨_,env',S',ι',te',tS',by simp only[iterD,h1],h2,h3,h4,h5,h6⟩
 | ret=>exact⟨_,env',S',ι',te',tS',by simp only[iterD,h1],h2,h3,h4,h5,h6⟩
theorem wt_join {σ:Type} (f:σ→List TV×List TB) (good:σ→Prop) (h1:WT P ty iso call yf B L fn rnd a te tS fun e te tS=>match e with | .normal=>∃ s,Fits B (f s).1 (f s).2 te tS∧good s | e=>Q e te tS)
  (h2:∀ s,good s→WT P ty iso call yf B L fn rnd b (f s).1 (f s).2 Q):WT P ty iso call yf B L fn rnd (.seq a b) te tS Q:=by
 refine wt_seq (h1.mono ?_)
 intro e te tS hq
 cases e with
 | normal =>
  obtain⟨s,hf,hg⟩:=hq
  exact wt_less hf.l hf.b hf.ok hf.base (h2 s hg)
 | exit id=>exact hq
 | ret=>exact hq
def relab (t:TT) (g:Nat):TV→TV
 | .nils => .sl t [] (.lab g)
 | .sl k [] .full => .sl k [] (.lab g)
 | v=>v
def relabE (ls:List (Nat×TT×Nat)):Nat→List TV→List TV
 | _,[]=>[]
 | i,v::l=>(match ls.find? fun p=>p.1==i with
  | some p=>relab p.2.1 p.2.2 v
  | none=>v)::relabE ls (i+1) l
def relabB (rl:List (Nat×List (Nat×TT×Nat))):Nat→List TB→List TB
 | _,[]=>[]
 | i,.cells c::l => .cells (match rl.find? fun p=>p.1==i with
  | some p=>relabE p.2 0 c
  | none=>c)::relabB rl (i+1) l
 | i,b::l=>b::relabB rl (i+1) l
def fitB (rl:List (Nat×List (Nat×TT×Nat))) (n:Nat) (owns:List (Nat×Nat)) (tS:List TB):List TB :=
 if owns.isEmpty||tS.length≤n then relabB rl 0 (tS.take n)++owns.map fun p => .own p.1 p.2 else []
theorem leB_owns:∀ owns:List (Nat×Nat),LeB (owns.map fun p=>TB.own p.1 p.2) []
 | [] => .nil
 | _::l => .new (leB_owns l)
theorem LeL.trans {l m k:List TV} (h:LeL l m):∀ (ks:List Nat) (i:Nat),m=maskE ks i k→LeL l k:=by
 induction h generalizing k with
 | nil =>
  intro ks i e
  cases k with
  | nil=>exact .nil
  | cons=>simp only[maskE] at e; cases e
 | unk _ ih=>intro ks i e; cases k with | nil=>simp only[maskE] at e; cases e | cons v k=>simp only[maskE,List.cons.injEq] at e; exact .unk (ih ks (i+1) e.2)
 | same _ ih =>
  intro ks i e
  cases k with
  | nil=>simp only[maskE] at e; cases e
  | cons v k =>
   simp only[maskE,List.cons.injEq] at e
   obtain⟨rfl,e⟩:=e
   split
   ·exact .same (ih ks (i+1) e)
   ·exact .unk (ih ks (i+1) e)
 | no _ ih =>
  intro ks i e
  cases k with
  | nil=>simp only[maskE] at e; cases e
  | cons v k =>
   simp only[maskE,List.cons.injEq] at e
   obtain⟨e1,e⟩:=e
   split at e1
   ·subst e1; exact .no (ih ks (i+1) e)
   ·cases e1
 | lab _ ih =>
  intro ks i e
  cases k with
  | nil=>simp only[maskE] at e; cases e
  | cons v k =>
   simp only[maskE,List.cons.injEq] at e
   obtain⟨e1,e⟩:=e
   split at e1
   ·subst e1; exact .lab (ih ks (i+1) e)
   ·cases e1
 | nils _ ih =>
  intro ks i e
  cases k with
  | nil=>simp only[maskE] at e; cases e
  | cons v k =>
   simp only[maskE,List.cons.injEq] at e
   obtain⟨e1,e⟩:=e
   split at e1
   ·subst e1; exact .nils (ih ks (i+1) e)
   ·cases e1
 | agg ha _ _ ih =>
  intro ks i e
  cases k with
  | nil=>simp only[maskE] at e; cases e
  | cons v k =>
   simp only[maskE,List.cons.injEq] at e
   obtain⟨e1,e⟩:=e
   split at e1
   ·subst e1; exact .agg ha (ih ks (i+1) e)
   ·cases e1
end Go.Tv
end
section
namespace Go.Tv
open Go Go.Di Go.Proofs
abbrev I64:TT := .int .i64
abbrev IntsT:TT := .sl I64
abbrev PieceT:TT := .pair IntsT (.pair IntsT (.pair I64 (.pair IntsT .unit)))
abbrev RangeT:TT := .pair I64 (.pair I64 .unit)
abbrev SeamT:TT := .pair I64 (.pair I64 (.pair I64 .unit))
def ttL:List (Nat×TT):=[(3,I64),(4,.bool),(35,I64),(23,IntsT),(25,PieceT),(22,.sl PieceT),(75,RangeT),(83,.int .u64),(79,SeamT),(34,.sl SeamT),(81,SeamT),(47,.sl SeamT),(41,.sl IntsT),(9,.str)]
def ttb (t:TypeId):Option TT:=(ttL.find? fun p=>p.1==t).map (·.2)
abbrev vv:=TV.val
abbrev vi:=Value.int IntKind.i64
abbrev vb:=Value.bool
abbrev ival (n:Int):TV := .val (.int .i64 n)
abbrev bval (b:Bool):TV := .val (.bool b)
noncomputable abbrev Tp:Program:=Tryz.prog
noncomputable abbrev Ty:Tys:=tyOf Tryz.prog
def LL:Nat:=1000000
structure TabK (tab:IsoF):Prop where
 other:∀ f a,f≠60→f≠133→f≠12→f≠43→f≠52→tab f a=none
 fit:tab 12 []=some (.val (.bool true))
section
variable (tab:IsoF) (n:Nat)
noncomputable abbrev isoT:IsoF:=isoN Tp Ty tab LL n
noncomputable abbrev callT':CallF:=callN Tp Ty tab LL n
noncomputable abbrev yfT:YldF:=yfN Tp Ty tab LL n
end
theorem wr_i64 {n:Int} (h : -9223372036854775808≤n) (h':n≤9223372036854775807):IntKind.i64.wrap n=n:=by rw[IntKind.wrap_i64]; omega
end Go.Tv
end
section
namespace Go.Tv
open Go Go.Di
def NSpec (iso:IsoF) (call:CallF) (g:FuncId) (targs:List TV) (Q:List TV→Prop):Prop :=
 ∀ dargs S,RTl noIds S targs dargs→(∀ ds,RTl noIds [] targs ds→iso g ds=none)∧∃ S' id ds ts,call g dargs S=some (.ptr id 0,S')∧¬ Lv S id∧S'[id]? = some (.cells ds)∧RTl noIds [] ts ds∧refsL ts=[]∧(∀ k',Lv S k'→S'[k']? = S[k']?)∧Nn S.length S S'∧Q ts
theorem NSpec.mono {iso:IsoF} {call:CallF} {g:FuncId} {targs:List TV} {Q Q':List TV→Prop} (h:NSpec iso call g targs Q) (hq:∀ v,Q v→Q' v):NSpec iso call g targs Q':=fun dargs S hd=>by
 obtain⟨h0,S',id,ds,ts,h1,h2,h3,h4,h5,h6,h7,h8⟩:=h dargs S hd
 exact⟨h0,S',id,ds,ts,h1,h2,h3,h4,h5,h6,h7,hq _ h8⟩
variable {P:Program} {ty:Tys} {tt:TypeId→Option TT} {ι ι' w:Ids} {S S':Store} {te te1:List TV} {env:List DV} {tS tS1:List TB} {iso:IsoF} {call:CallF} {yf:YldF} {o:Oper} {nid nT:Nat} {B:List Nat} {r:TR} {ops:Array Oper}
theorem does_ncall {f:Operand} {args:Array Operand} {argTypes:Array TypeId} {g:FuncId} {fs cs xs targs:List TV} {Q:List TV→Prop} (hop:o.op = .call { callee := .value f,args,argTypes }) (hf:evT te f=some (.fn g fs cs)) (ha:evsT te args.toList=some xs) (hp:(fs++xs++cs).all pureB=true)
  (hn:normL (argTys tt fs argTypes) (fs++xs++cs)=targs) (hs:NSpec iso call g targs Q):Does P ty iso call yf B o nT te tS false fun v te' tS' _=>∃ ts,Q ts∧v = .ptr nT 0∧te'=te∧tS'=setT tS nT (.cells ts):=by
 intro ι w env S nid hR hB hw hT hnd hS
 obtain⟨fs',cs',xs',k1,k2,k3⟩:=icall_args hR.env hf ha
 obtain⟨k4,k5⟩:=normL_strip (ts:=argTys tt fs argTypes) (ι':=noIds) (S':=[]) hp k3
 have k6:=normL_plain (ts:=argTys tt fs argTypes) (ι':=noIds) (S':=S) hp k3
 rw[hn] at k5 k6
 obtain⟨h0,S',id,ds,ts,m1,m2,m3,m4,m5,m6,m7,m8⟩:=hs _ S k6
 have hne:∀ {k k':Nat},ι k=some k'→k'≠id:=fun hk e=>m2 (e▸hR.live hk)
 have hnew:ι nT=none:=hR.new hT
 have K:Keeps ι S (upd ι nT id) S' fun _=>False:=fun k k' _ hk=>by
  have h1:k≠nT:=by rintro rfl; rw[hnew] at hk; cases hk
  exact⟨by simp only[upd,h1,if_false]; exact hk,fun e s n hs=>by rw[m6 k' (hR.live hk)]; exact hs⟩
 refine⟨.ptr id 0,S',upd ι nT id,fun j=>if j=id then some nT else w j,.ptr nT 0,te,setT tS nT (.cells ts),⟨none,true⟩,⟨none,true⟩,fun _ => ?_,fun e=>(by cases e),⟨fun e=>e,fun l hl=>(by cases hl)⟩,fun l m hl=>(by cases hl),?_,by simp[RT,upd],?_,?_,?_,bok_setT hB hT,⟨m7.1,fun j hj hnone=>m7.2 j (by have:=(List.getElem?_eq_some_iff.1 hnone).1; omega) hnone⟩,ts,m8,rfl,rfl,rfl⟩
 ·simp only[stepOp,hop,k1,k2,callD,k4,if_true,h0 _ k5,m1]
 ·refine⟨rtl_mono K _ _ hR.env,fun k l hk => ?_,fun k e s hk t ht => ?_,fun k k' hk => ?_,fun i j k' hi hj => ?_⟩
  ·rw[setT_get hT] at hk
   split at hk
   ·rename_i e
    subst e
    cases hk
    exact⟨id,ds,by simp[upd],m3,rtl_norefs _ _ m5 m4⟩
   ·rename_i e
    obtain⟨k',ds',h1,h2,h3⟩:=hR.cells k l hk
    exact⟨k',ds',by simp only[upd,e,if_false]; exact h1,by rw[m6 k' (hR.live h1)]; exact h2,rtl_mono K _ _ h3⟩
  ·rw[setT_get hT] at hk
   split at hk
   ·cases hk
   ·rename_i e'
    simp only[upd,e',if_false] at ht
    obtain⟨n,h1⟩:=hR.own k e s hk t ht
    exact⟨n,by rw[m6 t (hR.live ht)]; exact h1⟩
  ·rw[setT_get hT]
   split
   ·exact⟨_,rfl,fun e=>by cases e⟩
   ·rename_i e
    simp only[upd,e,if_false] at hk
    exact hR.dom k k' hk
  ·unfold upd at hi hj
   split at hi<;>split at hj
   ·omega
   ·cases hi; exact(hne hj rfl).elim
   ·cases hj; exact(hne hi rfl).elim
   ·exact hR.inj i j k' hi hj
 ·intro a b hab
  unfold upd at hab
  split at hab
  ·rename_i e; subst e; cases hab; simp
  ·simp only[hne hab,if_false]; exact hw _ _ hab
 ·intro e; cases e
 ·refine⟨fun k' hl _=>m6 k' hl,fun k k' hk => ?_,fun k hk => ?_⟩
  ·unfold upd at hk
   split at hk
   ·cases hk; exact .inr m2
   ·exact .inl ⟨k,hk⟩
  ·have:=bok_new hB hT
   unfold upd
   rw[if_neg (fun e:k=nT=>this (e▸hk))]
def EndN (ty:Tys) (rs:List ResultVar) (cts:List (Option TT)) (Q:List TV→Prop) (e:DX) (te:List TV) (tS:List TB):Prop :=
 (match e with | .exit _=>False | _=>True)∧∃ ts,resT ty te tS rs=some [.ptr 0 0]∧tS[0]? = some (.cells ts)∧ts.all pureB=true∧refsL (normL cts ts)=[]∧Q (normL cts ts)
theorem nspec_of {tab:IsoF} {L n:Nat} {f:FuncId} {fn:Func} {c:Code} {targs:List TV} {cts:List (Option TT)} {Q:List TV→Prop} (hf:P.funcs[f]? = some fn) (hb:fn.body=some c) (ht:∀ a,tab f a=none)
  (h:WT P ty (isoN P ty tab L n) (callN P ty tab L n) (yfN P ty tab L n) [] L f false c (targs++List.replicate (fn.ntmps-targs.length) .unk) [] (EndN ty fn.results.toList cts Q)):NSpec (isoN P ty tab L (n+1)) (callN P ty tab L (n+1)) f targs Q:=by
 have key:∀ dargs S,RTl noIds S targs dargs→∃ S' id ds ts,(deepP P ty tab L (n+1)).1 f dargs S=some (.ptr id 0,S')∧¬ Lv S id∧S'[id]? = some (.cells ds)∧RTl noIds [] ts ds∧refsL ts=[]∧(∀ k',Lv S k'→S'[k']? = S[k']?)∧Nn S.length S S'∧Q ts:=by
  intro dargs S hd
  have hlen:=rtl_len hd
  have hR:RelT noIds (targs++List.replicate (fn.ntmps-targs.length) .unk) [] (dargs++List.replicate (fn.ntmps-dargs.length) dundef) S:=by
   refine⟨rtl_append hd (by rw[hlen]; exact rtl_rep _ _),fun k l hk=>(by simp at hk),fun k e s hk=>(by simp at hk),fun k k' hk=>(by cases hk),fun i j k' hi=>(by cases hi)⟩
  obtain⟨e,env',S',ι',te',tS',h1,h2,h3,h4,h5,h6⟩:=h noIds _ S hR (fun k hk=>(by cases hk))
  obtain⟨h6,ts,h7,h8,h9,h10,h11⟩:=h6
  obtain⟨ds,k1,k2⟩:=resT_ok h2 h7
  obtain⟨d,m',rfl,k3,k4⟩:=rtl_cases k2
  rw[rtl_nil' k4] at k1
  cases d<;>simp only[RT] at k3
  rename_i id off
  obtain⟨k3,rfl⟩:=k3
  obtain⟨id',ds',m1,m2,m3⟩:=h2.cells 0 ts h8
  rw[k3] at m1
  cases m1
  refine⟨S',id,ds',normL cts ts,?_,?_,m2,normL_plain h9 m3,h10,fun k' hl=>h4.rest k' hl (fun k hk=>by cases hk),h5,h11⟩
  ·simp only[deepP,hf,bodyD,hb]
   have h1':codeD P ty (isoOf tab (deepP P ty tab L n).1) (deepP P ty tab L n).1 (deepP P ty tab L n).2 L f false c (dargs++List.replicate (fn.ntmps-dargs.length) dundef) S=some (e,env',S'):=h1
   rw[h1']
   cases e with
   | normal=>simp only[k1,Option.map_some,oneOf]
   | ret=>simp only[k1,Option.map_some,oneOf]
   | exit id=>exact h6.elim
  ·rcases h4.ours 0 id k3 with ⟨j,hj⟩ | hl
   ·cases hj
   ·exact hl
 intro dargs S hd
 refine⟨fun ds hds => ?_,key dargs S hd⟩
 obtain⟨S',id,ds',ts,k1,-⟩:=key ds [] hds
 simp only[isoN,isoOf,ht,k1,DV.strip,DV.strip2,DV.pure,DV.pure2,Bool.false_eq_true,if_false]
end Go.Tv
end
section
namespace Go.Tv
open Go Go.Di Go.Proofs
variable {P:Program}
theorem pureS_bindE {α β:Type} (s:Sem α) (f:α→Sem β):pureS P (s >>= f)=(pureS P s).bind fun a=>pureS P (f a):=by
 change pureS P (s.bind f)=_
 cases s with
 | pure a=>rfl
 | program k =>
  simp only[Sem.bind,pureS]
  generalize k P=s'
  induction s' with
  | pure a=>rfl
  | program k ih=>simp only[Sem.bind,pureS]; exact ih P
  | _=>simp only[Sem.bind,pureS,Option.bind_none]
 | _=>simp only[Sem.bind,pureS,Option.bind_none]
theorem pureS_pure {α:Type} (a:α):pureS P (pure a:Sem α)=some a:=rfl
theorem pureS_program:pureS P program=some P:=rfl
theorem pureS_underlying {t:TypeId} {d:TypeDesc} (h:P.underlying t=some d):pureS P (underlying t)=some d:=by
 unfold underlying
 rw[pureS_bindE,pureS_program]
 simp only[Option.bind_some,h]
 rfl
theorem pureS_int (d:Nat) (t:TypeId) (k k':IntKind) (a b:Int) (h:P.underlying t=some (.int k')):pureS P (Op.equalIn (d+1) t (.int k a) (.int k b))=some (a==b):=by
 simp only[Op.equalIn,pureS_bindE,pureS_underlying h,Option.bind_some,if_true]
 rfl
theorem pureS_ite {α:Type} {c:Prop} [Decidable c] {a b:Sem α}:pureS P (if c then a else b)=if c then pureS P a else pureS P b:=by split<;>rfl
theorem pureS_struct (d:Nat) (t:TypeId) (xs ys:Array Value) (ht:P.underlying t=some (.struct (P.fieldsOf t))) (hp:P.stoodInHeld t=false) :
  pureS P (Op.equalIn (d+1) t (.agg xs) (.agg ys))=pureS P (Op.eqFields d xs ys (P.fieldsOf t).toList):=by
 simp only[Op.equalIn,pureS_bindE,pureS_underlying ht,Option.bind_some,pureS_program,hp,Bool.false_eq_true,if_false]
 rw[← Array.forIn_toList]
 generalize (P.fieldsOf t).toList=fs
 clear ht
 induction fs with
 | nil=>rfl
 | cons f fs ih =>
  simp only[List.forIn_cons,Op.eqFields,pureS_bindE,pureS_ite]
  split
  ·generalize pureS P (part f.type xs f.offset)=r1
   cases r1 with
   | none=>rfl
   | some a =>
    generalize pureS P (part f.type ys f.offset)=r2
    cases r2 with
    | none=>rfl
    | some b =>
     simp only[Option.bind_some]
     generalize pureS P (Op.equalIn d f.type a b)=r3
     cases r3 with
     | none=>rfl
     | some r =>
      cases r
      ·simp only[Option.bind_some,Bool.not_false,if_true,pureS_pure]
      ·simp only[Option.bind_some,Bool.not_true,Bool.false_eq_true,if_false,pureS_pure]
       exact ih
  ·simp only[pureS_pure,Option.bind_some]
   exact ih
theorem eqF_nil {d:Nat} {xs ys:Array Value}:pureS P (Op.eqFields d xs ys [])=some true:=rfl
theorem eqF_cons {d : Nat} {xs ys : Array Value} {f : Field} {fs : List Field} {k k' : IntKind} {a b : Int} {r : Bool} (hn : (f.name != "_") = true) (ha : pureS P (part f.type xs f.offset) = some (.int k a)) (hb : pureS P (part f.type ys f.offset) = some (.int k b)) (hu : P.underlying f.type = some (.int k')) (hr : pureS P (Op.eqFields (d + 1) xs ys fs) = some r) : pureS P (Op.eqFields (d + 1) xs ys (f :: fs)) = some ((a == b) && r) := by
 have hn' : f.name ≠ "_" := by simpa using hn
 simp only[Op.eqFields,hn',ne_eq,not_false_eq_true,if_true,pureS_bindE,ha,hb,Option.bind_some,pureS_int d _ _ _ _ _ hu]
 cases h:(a==b)
 ·rfl
 ·simp only[Bool.not_true,Bool.false_eq_true,if_false,Bool.true_and]; exact hr
theorem cmp_neq {t:TypeId} {xs ys:Array Value} {b:Bool} (ht:P.underlying t=some (.struct (P.fieldsOf t))) (hp:P.stoodInHeld t=false) (hm:P.eqGuardType P.depth t=false) (hf:pureS P (Op.eqFields 9999 xs ys (P.fieldsOf t).toList)=some b) (x y:Operand) :
  pureD P (do eqGuard .neq t x y (.agg xs) (.agg ys); binOp .neq t (.agg xs) (.agg ys))=some (.val (.bool !b)):=by
 have h1:pureS P (eqGuard .neq t x y (.agg xs) (.agg ys))=some ():=by
  simp only[eqGuard]
  simp only[Bool.not_true,Bool.false_eq_true,if_false,pureS_bindE,pureS_program,Option.bind_some,hm,Bool.not_false,if_true]
  rfl
 have h2:pureS P (binOp .neq t (.agg xs) (.agg ys))=some (.bool !b):=by
  simp only[binOp,pureS_bindE,Op.equal,Op.maxDepth,pureS_struct 9999 t xs ys ht hp,hf,Option.bind_some]
  rfl
 rw[pureD,pureS_bindE,h1,Option.bind_some,h2]
 rfl
variable {ty:Tys} {tt:TypeId→Option TT} {ι ι' w:Ids} {S S':Store} {te te1:List TV} {env:List DV} {tS tS1:List TB} {iso:IsoF} {call:CallF} {yf:YldF} {o:Oper} {nid nT:Nat} {B:List Nat} {ops:Array Oper}
theorem wq_bin {k:Nat} {dst:Option Tmp} {op:BinOp} {t:TypeId} {x y:Operand} {u:TypeId} {a b v:Value} {Q:List TV→Prop} (ho:(ops[k]?).bind (fun o=>match o.op with | .binOp op t x y u=>if wantedT ops te o=some true then some (op,t,x,y,u,o.dst) else none | _=>none)=some (op,t,x,y,u,dst)) (hx:(evT te x).bind toValT=some a) (hy:(evT te y).bind toValT=some b)
  (hv:pureD P (do eqGuard op t x y a b; binOp op t a b)=some (.val v)) (h:WQ P ty iso call yf ops tS (k+1) (putTV te dst (.val v)) Q):WQ P ty iso call yf ops tS k te Q:=by
 simp only[Option.bind_eq_some_iff] at ho
 obtain⟨o,h1,h2⟩:=ho
 split at h2
 ·rename_i op' t' x' y' u' hop
  split at h2
  ·rename_i hw
   cases h2
   refine wq_pure (tt:=fun _=>none) (c:=True) h1 hw ?_ trivial h
   simp only[pureT,hop,hx,hy,hv,valT,Option.map_some]
  ·cases h2
 ·cases h2
theorem wl_bin {k:Nat} {dst:Option Tmp} {op:BinOp} {t:TypeId} {x y:Operand} {u:TypeId} {a b v:Value} {Q:List TV→List TB→Prop} (ho:(ops[k]?).bind (fun o=>match o.op with | .binOp op t x y u=>if wantedT ops te o=some true then some (op,t,x,y,u,o.dst) else none | _=>none)=some (op,t,x,y,u,dst)) (hx:(evT te x).bind toValT=some a) (hy:(evT te y).bind toValT=some b)
  (hv:pureD P (do eqGuard op t x y a b; binOp op t a b)=some (.val v)) (h:WL P ty iso call yf B ops (k+1) (putTV te dst (.val v)) tS Q):WL P ty iso call yf B ops k te tS Q:=by
 simp only[Option.bind_eq_some_iff] at ho
 obtain⟨o,h1,h2⟩:=ho
 split at h2
 ·rename_i op' t' x' y' u' hop
  split at h2
  ·rename_i hw
   cases h2
   have hst:stepT P ty (fun _=>none) te tS o tS.length=some ⟨.val v,te,tS,[],True⟩:=by
    simp only[stepT,pureT,hop,hx,hy,hv,valT,Option.map_some,readsT]
   refine wl_op h1 hw (does_step hst trivial false) ?_
   rintro v te' tS' ft ⟨rfl,rfl,rfl,-⟩
   exact h
  ·cases h2
 ·cases h2
theorem cmp_43 (a1 a2 b1 b2:Int) (x y:Operand):pureD Tp (do eqGuard .neq 75 x y (.agg #[.int .i64 a1,.int .i64 a2]) (.agg #[.int .i64 b1,.int .i64 b2]); binOp .neq 75 (.agg #[.int .i64 a1,.int .i64 a2]) (.agg #[.int .i64 b1,.int .i64 b2]))=some (.val (.bool !((a1==b1)&&((a2==b2)&&true)))):=by
 refine cmp_neq (by kernel_rfl) (by kernel_rfl) (by kernel_rfl) ?_ x y
 have e:(Tp.fieldsOf 75).toList=[(Tp.fieldsOf 75).toList.getD 0 default,(Tp.fieldsOf 75).toList.getD 1 default]:=by kernel_rfl
 rw[e]
 exact eqF_cons (k := .i64) (k' := .i64) (by kernel_rfl) (by kernel_rfl) (by kernel_rfl) (by kernel_rfl) (eqF_cons (k := .i64) (k' := .i64) (by kernel_rfl) (by kernel_rfl) (by kernel_rfl) (by kernel_rfl) eqF_nil)
end Go.Tv
end
section
namespace Go.Tv
open Go Go.Di Go.Proofs
def vcIf (b:Bool) (A B:Prop):Prop :=
 match b with
 | true=>A
 | false=>B
def conj:List Prop→Prop→Prop
 | [],R=>R
 | p::l,R=>p∧conj l R
def conjE:List Prop→Prop
 | []=>True
 | p::l=>p∧conjE l
def impl:List Prop→Prop→Prop
 | [],R=>R
 | p::l,R=>p→impl l R
inductive SpT:Type 1
 | ex (α:Type) (k:α→SpT)
 | res (v:TV) (cs:List TV) (facts:List Prop)
def SpT.all:SpT→(TV→List TV→List Prop→Prop)→Prop
 | .ex _ k,K=>∀ x,(k x).all K
 | .res v cs fs,K=>K v cs fs
def SpT.some:SpT→(TV→List TV→List Prop→Prop)→Prop
 | .ex _ k,K=>∃ x,(k x).some K
 | .res v cs fs,K=>K v cs fs
def SpT.holds (s:SpT) (v:TV) (cs:List TV):Prop:=s.some fun v' cs' fs=>v=v'∧cs=cs'∧conjE fs
def SpT.holdsV (s:SpT) (v:TV):Prop:=s.some fun v' _ fs=>v=v'∧conjE fs
def SpT.holdsN (s:SpT) (cs:List TV):Prop:=s.some fun _ cs' fs=>cs=cs'∧conjE fs
abbrev Sp:=Option (List Prop×SpT)
structure Bd where
 sl:List (Nat×TV)
 pl:List (Nat×List TV):=[]
 own:List (Nat×Nat):=[]
 good:List Prop:=[]
 m:Nat:=0
inductive LA:Type 1
 | ex (α:Type) (k:α→LA)
 | st (b:Bd)
 | un (n:Nat)
 | dep (f:List TV→List TB→LA)
def LA.at (la:LA) (te:List TV) (tS:List TB):LA :=
 match la with
 | .dep f=>f te tS
 | la=>la
def withSl (te:List TV) (i:Nat) (k:List Int→LA):LA :=
 match te.getD i .unk with
 | .sl (.int .i64) l _=>k l
 | _ => .un 0
def LA.all:LA→(Bd→Prop)→Prop
 | .ex _ k,K=>∀ x,(k x).all K
 | .st b,K=>K b
 | _,_=>True
def LA.some:LA→(Bd→Prop)→Prop
 | .ex _ k,K=>∃ x,(k x).some K
 | .st b,K=>K b
 | _,_=>False
structure Tbl where
 I:FuncId→List TV→Sp
 C:FuncId→List TV→List TV→Sp
 N:FuncId→List TV→Sp
 X:FuncId→Option (Func×List (Nat×LA)):=fun _=>none
structure TblOK (T:Tbl) (iso:IsoF) (call:CallF):Prop where
 I:∀ g a p s,T.I g a=some (p,s)→conjE p→ISpec iso g a fun v=>s.holdsV v
 C:∀ g a c p s,T.C g a c=some (p,s)→conjE p→CSpec call g a c fun v cs=>s.holds v cs
 N:∀ g a p s,T.N g a=some (p,s)→conjE p→NSpec iso call g a fun cs=>s.holdsN cs
mutual
def forceV (v:TV) (K:TV→Prop):Prop :=
 match v with
 | .unk=>K .unk
 | .val (.int k n)=>K (.val (.int k n))
 | .val (.bool b)=>K (.val (.bool b))
 | .val v=>K (.val v)
 | .nils=>K .nils
 | .agg l=>forceL l fun l=>K (.agg l)
 | .tup l=>forceL l fun l=>K (.tup l)
 | .sl t l ap=>K (.sl t l ap)
 | .ptr id off=>K (.ptr id off)
 | .eptr t l i off=>K (.eptr t l i off)
 | .fn f a b=>forceL a fun a=>forceL b fun b=>K (.fn f a b)
def forceL (l:List TV) (K:List TV→Prop):Prop :=
 match l with
 | []=>K []
 | a::l=>forceV a fun a=>forceL l fun l=>K (a::l)
end
def forceB (l:List TB) (K:List TB→Prop):Prop :=
 match l with
 | []=>K []
 | .cells c::l=>forceL c fun c=>forceB l fun l=>K (.cells c::l)
 | .none::l=>forceB l fun l=>K (.none::l)
 | .own e s::l=>forceB l fun l=>K (.own e s::l)
def setK:List TV→Nat→TV→(List TV→Prop)→Prop
 | [],_,_,K=>K []
 | _::l,0,v,K=>K (v::l)
 | a::l,n+1,v,K=>setK l n v fun l=>K (a::l)
def putK (te:List TV) (dst:Option Tmp) (v:TV) (K:List TV→Prop):Prop :=
 match dst with
 | some d=>setK te d v K
 | none=>K te
mutual
def eqT:TV→TV→Option (List Prop)
 | .unk,.unk=>some []
 | .val (.int k a),.val (.int k' b)=>if k=k' then some [a=b] else none
 | .val (.bool a),.val (.bool b)=>some [a=b]
 | .val a,.val b=>some [a=b]
 | .nils,.nils=>some []
 | .agg l,.agg m=>eqL l m
 | .tup l,.tup m=>eqL l m
 | .sl t l .no,.sl t' l' .no=>if h:t=t' then some [h▸l=l'] else none
 | .sl t l .full,.sl t' l' .full=>if h:t=t' then some [h▸l=l'] else none
 | .sl t l (.lab g),.sl t' l' (.lab g')=>if h:t=t' then if g=g' then some [h▸l=l'] else none else none
 | .ptr i o,.ptr i' o'=>if i=i'∧o=o' then some [] else none
 | .eptr t l i o,.eptr t' l' i' o'=>if h:t=t' then some [h▸l=l',i=i',o=o'] else none
 | .fn f a b,.fn f' a' b'=>if f=f' then match eqL a a',eqL b b' with
  | some x,some y=>some (x++y)
  | _,_=>none else none
 | _,_=>none
def eqL:List TV→List TV→Option (List Prop)
 | [],[]=>some []
 | a::l,b::m=>match eqT a b,eqL l m with
  | some x,some y=>some (x++y)
  | _,_=>none
 | _,_=>none
end
mutual
def leT:TV→TV→Option (List Prop)
 | _,.unk=>some []
 | .sl t l _,.sl t' l' .no=>if h:t=t' then some [h▸l=l'] else none
 | .sl t l .full,.sl t' l' (.lab _)=>match l with
  | []=>if t=t' then some [[]=l'] else none
  | _::_=>none
 | .nils,.sl _ l _=>some [[]=l]
 | .agg l,.agg m=>leTl l m
 | v,u=>eqT v u
def leTl:List TV→List TV→Option (List Prop)
 | [],[]=>some []
 | a::l,b::m=>match leT a b,leTl l m with
  | some x,some y=>some (x++y)
  | _,_=>none
 | _,_=>none
end
def leBl:List TB→List TB→Option (List Prop)
 | _,[]=>some []
 | _::l,.none::m=>leBl l m
 | .cells a::l,.cells b::m=>match leTl a b,leBl l m with
  | some x,some y=>some (x++y)
  | _,_=>none
 | .own e s::l,.own e' s'::m=>if e=e'∧s=s' then leBl l m else none
 | [],.own _ _::m=>leBl [] m
 | _,_=>none
def ask (o:Option (List Prop)) (K:Prop):Prop :=
 match o with
 | some l=>conj l K
 | none=>False
section
variable (P:Program) (ty:Tys) (tt:TypeId→Option TT) (T:Tbl)
def rng (n:Int):Prop := -9223372036854775808≤n∧n≤9223372036854775807
def arithT (te:List TV) (o:Oper):Option (TV×Prop) :=
 match o.op with
 | .binOp .add _ x y _=>match evT te x,evT te y with
  | some (.val (.int .i64 a)),some (.val (.int .i64 b))=>some (.val (.int .i64 (a+b)),rng (a+b))
  | _,_=>none
 | .binOp .sub _ x y _=>match evT te x,evT te y with
  | some (.val (.int .i64 a)),some (.val (.int .i64 b))=>some (.val (.int .i64 (a-b)),rng (a-b))
  | _,_=>none
 | .binOp .mul _ x y _=>match evT te x,evT te y with
  | some (.val (.int .i64 a)),some (.val (.int .i64 b))=>some (.val (.int .i64 (a*b)),rng (a*b))
  | _,_=>none
 | .unOp .neg _ x=>match evT te x with
  | some (.val (.int .i64 a))=>some (.val (.int .i64 (-a)),rng (-a))
  | _=>none
 | _=>none
def eqFs (xs ys:Array Value):List Field→Option Bool
 | []=>some true
 | f :: fs => match f.name != "_", pureS P (part f.type xs f.offset), pureS P (part f.type ys f.offset), P.underlying f.type, eqFs xs ys fs with
  | true,some (.int k a),some (.int k' b),some (.int _),some r=>if k'=k then some ((a==b)&&r) else none
  | _,_,_,_,_=>none
def cmpT (te:List TV) (o:Oper):Option Bool :=
 match o.op with
 | .binOp .neq t x y _=>match (evT te x).bind toValT,(evT te y).bind toValT with
  | some (.agg xs),some (.agg ys)=>match P.underlying t,P.stoodInHeld t,P.eqGuardType P.depth t with
   | some (.struct fs),false,false=>(eqFs P xs ys fs.toList).map fun r => !r
   | _,_,_=>none
  | _,_=>none
 | .binOp .eql t x y _=>match (evT te x).bind toValT,(evT te y).bind toValT with
  | some (.agg xs),some (.agg ys)=>match P.underlying t,P.stoodInHeld t,P.eqGuardType P.depth t with
   | some (.struct fs),false,false=>eqFs P xs ys fs.toList
   | _,_,_=>none
  | _,_=>none
 | _=>none
def condOp (o:Oper):Bool :=
 match o.op with
 | .slice .. | .indexAddr .. => true
 | .call { callee := .builtin .append,.. }=>true
 | _=>false
def arrT (te:List TV) (o:Oper):Option (Tmp×Int×Nat) :=
 match o.op with
 | .indexAddr t _ (.tmp i)=>match ty t,te[i]? with
  | some ⟨.array k _ _,_,_⟩,some (.val (.int .i64 n))=>some (i,n,k)
  | _,_=>none
 | .index t _ (.tmp i)=>match ty t,te[i]? with
  | some ⟨.array k _ _,_,_⟩,some (.val (.int .i64 n))=>some (i,n,k)
  | _,_=>none
 | _=>none
def splitK (n:Int) (K:Nat→Prop):Nat→Nat→Prop
 | 0,_=>False
 | c+1,j=>vcIf (decide (n=(j:Int))) (K j) (splitK n K c (j+1))
def nilT (te:List TV) (o:Oper):Option (Bool×Prop) :=
 match o.op with
 | .binOp .eql t x y _=>match ty t,evT te x,evT te y with
  | some ⟨.slice _ _ _ _,_,_⟩,some (.sl _ l _),some .nils=>some (false,l≠[])
  | some ⟨.slice _ _ _ _,_,_⟩,some .nils,some .nils=>some (true,True)
  | _,_,_=>none
 | _=>none
def isCells (tS:List TB) (k:Nat):Bool :=
 match tS[k]? with
 | some (.cells _)=>true
 | _=>false
mutual
def dropV (tS:List TB):TV→TV
 | .sl t l (.lab _) => .sl t l .no
 | .ptr id off=>match isCells tS id with
  | true => .ptr id off
  | false => .unk
 | .agg l => .agg (dropL tS l)
 | .tup l => .tup (dropL tS l)
 | .fn f a b => .fn f (dropL tS a) (dropL tS b)
 | v=>v
def dropL (tS:List TB):List TV→List TV
 | []=>[]
 | a::l=>dropV tS a::dropL tS l
end
def cellsIx:Nat→List TB→List Nat
 | _,[]=>[]
 | i,.cells _::l=>i::cellsIx (i+1) l
 | i,_::l=>cellsIx (i+1) l
def isCmp (o:Oper):Bool :=
 match o.op with
 | .binOp .neq .. | .binOp .eql .. => true
 | _=>false
def callV (te:List TV) (o:Oper):Option (FuncId×List TV) :=
 match o.op with
 | .call { callee := .value f,args,argTypes }=>match evT te f,evsT te args.toList with
  | some (.fn g fs cs),some xs=>if (fs++xs++cs).all pureB then some (g,normL (argTys tt fs argTypes) (fs++xs++cs)) else none
  | _,_=>none
 | _=>none
def pcallV (te:List TV) (tS:List TB) (o:Oper):Option (FuncId×Nat×List TV×List TV) :=
 match o.op with
 | .call { callee := .value f,args,argTypes }=>match evT te f,evsT te args.toList with
  | some (.fn g fs cs),some xs=>match refOf (fs++xs++cs) with
   | some kp=>match argsP kp (argTys tt fs argTypes) (fs++xs++cs),tS[kp]? with
    | some targs,some (.cells ts)=>if (fs++xs++cs).any isRef&&(refsL ts).isEmpty then some (g,kp,targs,ts) else none
    | _,_=>none
   | none=>none
  | _,_=>none
 | _=>none
def pcallD (te:List TV) (tS:List TB) (o:Oper):Option (FuncId×Nat×List TV×List TV) :=
 match o.op with
 | .call { callee := .value f,args,argTypes }=>match evT te f,evsT te args.toList with
  | some (.fn g fs cs),some xs=>match fs++xs++cs with
   | .ptr kp off::rest=>match tS[kp]? with
    | some (.cells ts)=>if rest.all pureB&&ts.all flat1 then some (g,kp,.ptr 0 off::normL (argTys tt fs argTypes).tail rest,ts) else none
    | _=>none
   | _=>none
  | _,_=>none
 | _=>none
def pcallM (md:Nat) (te:List TV) (tS:List TB) (o:Oper):Option (FuncId×Nat×List TV×List TV) :=
 match md with
 | 0=>pcallV tt te tS o
 | 2=>pcallD tt te tS o
 | _=>none
def footM (md kp:Nat):Foot :=
 match md with
 | 2=>⟨some [kp],true⟩
 | _=>⟨none,true⟩
def flatM (md:Nat) (v:TV) (cs:List TV) (K:Prop):Prop :=
 match md with
 | 2=>match flatR v&&cs.all flat1 with
  | true=>K
  | false=>False
 | _=>K
def inlV (te:List TV) (o:Oper):Option (FuncId×List TV) :=
 match o.op with
 | .call { callee := .value f,args,argTypes:=_ }=>match evT te f,evsT te args.toList with
  | some (.fn g fs cs),some xs=>if (fs++xs++cs).any isRef then some (g,fs++xs++cs) else none
  | _,_=>none
 | _=>none
def inlX (md:Nat) (te:List TV) (o:Oper):Option (List TV×Func×List (Nat×LA)) :=
 match md with
 | 0=>match inlV te o with
  | some (g,A)=>match T.X g with
   | some (fn,j)=>some (A,fn,j)
   | none=>none
  | none=>none
 | _=>none
abbrev Inl:=Func→List (Nat×LA)→List TV→List TB→(TV→List TB→Prop)→Prop
inductive Gd
 | no (b:Bool)
 | ask (d:Tmp) (b want:Bool)
 | unk
def gdT (ops:Array Oper) (te:List TV) (o:Oper):Gd :=
 match o.guard with
 | none => .no true
 | some (j,want)=>match (ops[j]?).bind (·.dst) with
  | some d=>match te[d]? with
   | some (.val (.bool b)) => .ask d b want
   | some .unk => .unk
   | some (.val _) => .no false
   | _ => .unk
  | none => .no false
abbrev KO:=List TV→List TB→List Foot→Prop
def quietF:Foot:=⟨some [],false⟩
def nidT (md n0 k:Nat) (tS:List TB):Nat :=
 match md with
 | 2=>n0+k
 | _=>tS.length
variable (inl:Inl)
def callK (md:Nat) (o:Oper) (te:List TV) (tS:List TB) (fs:List Foot) (K:KO):Prop :=
 match inlX T md te o with
 | some (A,fn,j)=>inl fn j A tS fun v tS'=>forceV v fun v=>forceL (dropL tS te) fun te=>putK te o.dst v fun te=>K te tS' fs
 | none=>match callV tt te o with
 | some (g,targs)=>match md==0,T.N g targs with
  | true,some (p,s)=>conj p (s.all fun _ cs facts=>impl facts (putK te o.dst (.ptr tS.length 0) fun te=>K te (tS++[.cells cs]) fs))
  | _,_=>match T.I g targs with
   | some (p,s)=>conj p (s.all fun v _ facts=>impl facts (forceV v fun v=>putK te o.dst v fun te=>K te tS (fs++[quietF])))
   | none=>False
 | none=>match pcallM tt md te tS o with
  | some (g,kp,targs,ts)=>match T.C g targs ts with
   | some (p,s)=>conj p (s.all fun v cs facts=>impl facts (flatM md v cs (forceV v fun v=>putK te o.dst v fun te=>forceL cs fun cs=>forceB (tS.set kp (.cells cs)) fun tS=>K te tS (fs++[footM md kp]))))
   | none=>False
  | none=>False
def opK1 (md n0 k:Nat) (o:Oper) (te:List TV) (tS:List TB) (fs:List Foot) (K:KO):Prop :=
 match newB tS (nidT md n0 k tS) with
 | false=>False
 | true=>match isCall o with
  | true=>callK tt T inl md o te tS fs K
  | false=>match arithT te o with
   | some (v,c)=>c∧putK te o.dst v fun te=>K te tS (fs++[quietF])
   | none=>match isCmp o,cmpT P te o,nilT ty te o with
    | true,some b,_=>putK te o.dst (.val (.bool b)) fun te=>K te tS (fs++[quietF])
    | true,none,some (b,c)=>c∧putK te o.dst (.val (.bool b)) fun te=>K te tS (fs++[quietF])
    | _,_,_=>match md with
     | 1=>match pureT P ty tt te tS o with
      | some q=>match condOp o with
       | true=>q.2∧forceV q.1 fun v=>putK te o.dst v fun te=>K te tS (fs++[quietF])
       | false=>forceV q.1 fun v=>putK te o.dst v fun te=>K te tS (fs++[quietF])
      | none=>False
     | _=>match stepT P ty tt te tS o (nidT md n0 k tS) with
      | some q=>match condOp o with
       | true=>q.c∧forceV q.v fun v=>forceL q.te fun te=>putK te o.dst v fun te=>forceB q.tS fun tS=>K te tS (fs++[⟨some q.foot,wrOf o⟩])
       | false=>forceV q.v fun v=>putK q.te o.dst v fun te=>forceB q.tS fun tS=>K te tS (fs++[⟨some q.foot,wrOf o⟩])
      | none=>False
def opK (md n0 k:Nat) (o:Oper) (te:List TV) (tS:List TB) (fs:List Foot) (K:KO):Prop :=
 match arrT ty te o with
 | some (t,n,c)=>splitK n (fun j=>setK te t (.val (.int .i64 (j:Int))) fun te=>opK1 P ty tt T inl md n0 k o te tS fs K) c 0
 | none=>opK1 P ty tt T inl md n0 k o te tS fs K
def skipK (o:Oper) (te:List TV) (tS:List TB) (fs:List Foot) (K:KO):Prop:=putK te o.dst undT fun te=>K te tS (fs++[quietF])
def vcOps (md n0:Nat) (ops:Array Oper):List Oper→Nat→List TV→List TB→List Foot→KO→Prop
 | [],_,te,tS,fs,K=>K te tS fs
 | o::r,k,te,tS,fs,K=>match gdT ops te o with
  | .no true=>opK P ty tt T inl md n0 k o te tS fs fun te tS fs=>vcOps md n0 ops r (k+1) te tS fs K
  | .no false=>skipK o te tS fs fun te tS fs=>vcOps md n0 ops r (k+1) te tS fs K
  | .ask d b want=>match want with
   | true=>vcIf b (setK te d (.val (.bool true)) fun te=>opK P ty tt T inl md n0 k o te tS fs fun te tS fs=>vcOps md n0 ops r (k+1) te tS fs K) (setK te d (.val (.bool false)) fun te=>skipK o te tS fs fun te tS fs=>vcOps md n0 ops r (k+1) te tS fs K)
   | false=>vcIf b (setK te d (.val (.bool true)) fun te=>skipK o te tS fs fun te tS fs=>vcOps md n0 ops r (k+1) te tS fs K) (setK te d (.val (.bool false)) fun te=>opK P ty tt T inl md n0 k o te tS fs fun te tS fs=>vcOps md n0 ops r (k+1) te tS fs K)
  | .unk=>False
def bitO (d:Option Tmp):Nat :=
 match d with
 | some d=>2 ^ d
 | none=>0
def opUses (o:Oper):Nat:=o.op.operands.foldl (fun a x=>match x with | .tmp t=>a ||| 2 ^ t | _=>a) 0
def defs:Code→Nat
 | .region _ ops _=>ops.foldl (fun a o=>a ||| bitO o.dst) 0
 | .seq a b | .cond _ a b=>defs a ||| defs b
 | .block _ c | .loop c | .scope c=>defs c
 | _=>0
def uses:Code→Nat
 | .region _ ops _=>ops.foldl (fun a o=>a ||| opUses o) 0
 | .seq a b=>uses a ||| uses b
 | .cond x a b=>(match x with | .tmp t=>2 ^ t | _=>0) ||| uses a ||| uses b
 | .block _ c | .loop c | .scope c=>uses c
 | _=>0
def cnt:Code→Nat
 | .seq a b=>1+cnt a+cnt b
 | .cond _ a b=>cnt a+cnt b
 | .block _ c | .scope c=>cnt c
 | .loop c=>1+cnt c
 | _=>0
def headE (sl:List (Nat×TV)) (keep:Nat):Nat→List TV→List TV
 | _,[]=>[]
 | i,v::l=>(match sl.find? fun p=>p.1==i with
  | some p=>p.2
  | none=>match keep.testBit i with
   | true=>v
   | false => .unk)::headE sl keep (i+1) l
def headP (sl:List (Nat×TV)):Nat→List TV→Option (List Prop)
 | _,[]=>some []
 | i,v::l=>match sl.find? fun p=>p.1==i with
  | some p=>match leT v p.2,headP sl (i+1) l with
   | some x,some y=>some (x++y)
   | _,_=>none
  | none=>headP sl (i+1) l
def headB (pl:List (Nat×List TV)):Nat→List TB→List TB
 | _,[]=>[]
 | i,b::l=>(match b,pl.find? fun p=>p.1==i with
  | .cells _,some p => .cells p.2
  | b,_=>b)::headB pl (i+1) l
def headBP (pl:List (Nat×List TV)):Nat→List TB→Option (List Prop)
 | _,[]=>some []
 | i,b::l=>match b,pl.find? fun p=>p.1==i with
  | .cells c,some p=>match leTl c p.2,headBP pl (i+1) l with
   | some x,some y=>some (x++y)
   | _,_=>none
  | _,_=>headBP pl (i+1) l
def headS (b:Bd) (tS:List TB):List TB:=headB b.pl 0 tS++b.own.map fun p => .own p.1 p.2
abbrev KC:=DX→List TV→List TB→Prop
def findA (J:List (Nat×LA)) (i:Nat) (te:List TV) (tS:List TB):Option LA :=
 match J.find? fun p=>p.1==i with
 | some p=>some (p.2.at te tS)
 | none=>none
def entryK (B:List Nat) (b:Bd) (keep:Nat) (te:List TV) (tS:List TB) (K:Prop):Prop :=
 vcIf (okB (headE b.sl keep 0 te) (headS b tS)&&B.all (liveB (headS b tS))) (ask (headP b.sl 0 te) (ask (headBP b.pl 0 tS) (conj b.good K))) False
def backK (B:List Nat) (te1:List TV) (tS1:List TB) (b:Bd) (te:List TV) (tS:List TB) (K:Prop):Prop :=
 vcIf (okB te1 tS1&&B.all (liveB tS1)) (ask (leTl te te1) (ask (leBl tS tS1) (conj b.good K))) False
def unK (f:List TV→List TB→(List TV→List TB→Prop)→Prop):Nat→List TV→List TB→Prop
 | 0,_,_=>False
 | n+1,te,tS=>f te tS (unK f n)
def quietR (P:Program):Code→Option (Array Oper)
 | .region _ ops true=>if loudR P ops then none else some ops
 | _=>none
def keepOk (keep:Nat) (ops:Array Oper):Bool:=ops.toList.all fun o=>match o.dst with
 | some d => !keep.testBit d
 | none=>true
def setOp (x:Operand) (te:List TV) (v:Bool) (K:List TV→Prop):Prop :=
 match x with
 | .tmp t=>setK te t (.val (.bool v)) K
 | _=>K te
variable (B:List Nat) (J:List (Nat×LA))
def vcC:Code→Nat→Nat→List TV→List TB→KC→Prop
 | .skip,_,_,te,tS,K | .label _,_,_,te,tS,K=>K .normal te tS
 | .exit id,_,_,te,tS,K=>K (.exit id) te tS
 | .ret,_,_,te,tS,K=>K .ret te tS
 | .scope c,i,lv,te,tS,K=>vcC c i lv te tS K
 | .block id c,i,lv,te,tS,K=>vcC c i lv te tS fun e te tS=>match e with
  | .exit id'=>if id'=id then K .normal te tS else K (.exit id') te tS
  | .normal=>K .normal te tS
  | .ret=>K .ret te tS
 | .cond x a b,i,lv,te,tS,K=>match evT te x with
  | some (.val (.bool t))=>vcIf t (setOp x te true fun te=>vcC a i lv te tS K) (setOp x te false fun te=>vcC b (i+cnt a) lv te tS K)
  | _=>False
 | .seq a b,i,lv,te,tS,K=>match findA J i te tS with
  | some la=>match quietR P a with
   | some ops=>vcIf (drawOk ops (Region.before ops)&&keepOk ((lv ||| uses b) &&& (2 ^ 400-1-(defs a))) ops) (vcOps P ty tt T inl 1 0 ops ops.toList 0 te tS [] fun te' _ _=>la.some fun bd=>ask (headP bd.sl 0 te') (conj bd.good True)) False ∧
    la.all fun bd=>impl bd.good (forceL (headE bd.sl ((lv ||| uses b) &&& (2 ^ 400-1-(defs a))) 0 te) fun te1=>vcC b (i+1+cnt a) lv te1 tS K)
   | none=>vcC a (i+1) (lv ||| uses b) te tS (fun e te' tS'=>match e with
    | .normal=>la.some fun bd=>backK B (headE bd.sl ((lv ||| uses b) &&& (2 ^ 400-1-(defs a))) 0 te) (headS bd tS) bd te' tS' True
    | .exit id=>K (.exit id) te' tS'
    | .ret=>K .ret te' tS')∧la.all fun bd=>impl bd.good (forceL (headE bd.sl ((lv ||| uses b) &&& (2 ^ 400-1-(defs a))) 0 te) fun te1=>forceB (headS bd tS) fun tS1=>vcC b (i+1+cnt a) lv te1 tS1 K)
  | none=>vcC a (i+1) (lv ||| uses b) te tS fun e te tS=>match e with
   | .normal=>vcC b (i+1+cnt a) lv te tS K
   | .exit id=>K (.exit id) te tS
   | .ret=>K .ret te tS
 | .loop c,i,lv,te,tS,K=>match findA J i te tS with
  | some (.un n)=>unK (fun te tS K'=>vcC c (i+1) (lv ||| uses c) te tS fun e te tS=>match e with
    | .normal=>K' te tS
    | .exit id=>K (.exit id) te tS
    | .ret=>K .ret te tS) (min n 1000) te tS
  | some la=>(la.some fun bd=>entryK B bd ((lv ||| uses c) &&& (2 ^ 400-1-(defs c))) te tS (bd.m<1000000)) ∧
   la.all fun bd=>impl bd.good (forceL (headE bd.sl ((lv ||| uses c) &&& (2 ^ 400-1-(defs c))) 0 te) fun te1=>forceB (headS bd tS) fun tS1=>vcC c (i+1) (lv ||| uses c) te1 tS1 fun e te' tS'=>match e with
    | .normal=>la.some fun bd'=>backK B (headE bd'.sl ((lv ||| uses c) &&& (2 ^ 400-1-(defs c))) 0 te) (headS bd' tS) bd' te' tS' (bd'.m<bd.m)
    | .exit id=>K (.exit id) te' tS'
    | .ret=>K .ret te' tS')
  | none=>False
 | .region _ ops draw,_,_,te,tS,K=>match draw with
  | true=>match loudR P ops with
   | true=>vcIf (drawOk ops (Region.before ops)) (forceB (tS++List.replicate ops.size .none) fun tS0=>vcOps P ty tt T inl 2 tS.length ops ops.toList 0 te tS0 [] fun te tS fs=>vcIf (metOk (Region.before ops) fs) (forceB (trimT tS) fun tS=>K .normal te tS) False) False
   | false=>vcIf (drawOk ops (Region.before ops)) (vcOps P ty tt T inl 1 0 ops ops.toList 0 te tS [] fun te _ _=>K .normal te tS) False
  | false=>vcOps P ty tt T inl 0 0 ops ops.toList 0 te tS [] fun te tS _=>forceB (trimT tS) fun tS=>K .normal te tS
 | _,_,_,_,_,_=>False
def finI (ty:Tys) (rs:List ResultVar) (rts:List (Option TT)) (s:SpT) (te:List TV) (tS:List TB):Prop :=
 match resT ty te tS rs with
 | some vs=>vcIf (vs.all pureB&&(refs (oneV (normL rts vs))).isEmpty) (s.some fun v _ facts=>ask (eqT (oneV (normL rts vs)) v) (conjE facts)) False
 | none=>False
def finC (ty:Tys) (rs:List ResultVar) (rts cts:List (Option TT)) (s:SpT) (te:List TV) (tS:List TB):Prop :=
 match resT ty te tS rs,tS with
 | some vs,.cells ts::_=>vcIf (vs.all pureB&&(refs (oneV (normL rts vs))).isEmpty&&(ts.all pureB&&(refsL (normL cts ts)).isEmpty)) (s.some fun v cs facts=>ask (eqT (oneV (normL rts vs)) v) (ask (eqL (normL cts ts) cs) (conjE facts))) False
 | _,_=>False
def finN (ty:Tys) (rs:List ResultVar) (cts:List (Option TT)) (s:SpT) (te:List TV) (tS:List TB):Prop :=
 match resT ty te tS rs,tS with
 | some [.ptr 0 0],.cells ts::_=>vcIf (ts.all pureB&&(refsL (normL cts ts)).isEmpty) (s.some fun _ cs facts=>ask (eqL (normL cts ts) cs) (conjE facts)) False
 | _,_=>False
def endF (F:List TV→List TB→Prop) (e:DX) (te:List TV) (tS:List TB):Prop :=
 match e with
 | .exit _=>False
 | .normal=>F te tS
 | .ret=>F te tS
end
def resMask (rs:List ResultVar):Nat:=rs.foldl (fun a x=>match x with | .tmp t=>a ||| 2 ^ t | .cell t _=>a ||| 2 ^ t) 0
def padT (n:Nat) (l:List TV):List TV:=l++List.replicate (n-l.length) .unk
def bodyC (f:Func):Code:=f.body.getD .skip
def finX (ty:Tys) (rs:List ResultVar) (K:TV→List TB→Prop) (te:List TV) (tS:List TB):Prop :=
 match resT ty te tS rs with
 | some vs=>K (oneV vs) tS
 | none=>False
def inlD (P:Program) (ty:Tys) (tt:TypeId→Option TT) (T:Tbl):Nat→Inl
 | 0=>fun _ _ _ _ _=>False
 | d+1=>fun fn j A tS K=>forceL (padT fn.ntmps A) fun te=>vcC P ty tt T (inlD P ty tt T d) (cellsIx 0 tS) j (bodyC fn) 0 (resMask fn.results.toList) te tS (endF (finX ty fn.results.toList K))
end Go.Tv
end
