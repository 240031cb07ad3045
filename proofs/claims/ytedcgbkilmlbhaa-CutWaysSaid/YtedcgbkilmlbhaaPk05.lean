import Derived.Test.YtedcgbkilmlbhaaPk04
import Derived.Test.YtedcgbkilmlbhaaChecked
import Derived.KernelRfl
import Derived.Laws.BitsLemmas
import Derived.Laws.StructEq
section
namespace Go.Tv
open Go Go.Di
def resT1 (ty:Tys) (te:List TV) (tS:List TB):ResultVar→Option TV
 | .tmp t=>some (te.getD t .unk)
 | .cell a t=>match ty t,te.getD a .unk with
  | some d,.ptr id off=>match tS[id]? with
   | some (.cells l)=>partT d.k.isAgg d.size l off
   | _=>none
  | _,_=>none
def resT (ty:Tys) (te:List TV) (tS:List TB):List ResultVar→Option (List TV)
 | []=>some []
 | x::r=>match resT1 ty te tS x,resT ty te tS r with
  | some v,some l=>some (v::l)
  | _,_=>none
def oneV:List TV→TV
 | [d]=>d
 | l => .tup l
variable {P:Program} {ty:Tys} {tt:TypeId→Option TT} {ι ι' w:Ids} {S S':Store} {te te1:List TV} {env:List DV} {tS tS1:List TB} {iso:IsoF} {call:CallF} {yf:YldF} {o:Oper} {nid nT:Nat} {B:List Nat} {r:TR} {ops:Array Oper}
theorem resT_ok (h:RelT ι te tS env S):∀ {rs:List ResultVar} {vs:List TV},resT ty te tS rs=some vs→∃ ds,resD ty env S rs=some ds∧RTl ι S vs ds
 | [],vs,hx=>by cases hx; exact⟨[],rfl,rtl_nil⟩
 | x::r,vs,hx=>by
  simp only[resT] at hx
  split at hx
  ·rename_i v l h1 h2
   cases hx
   obtain⟨ds,k1,k2⟩:=resT_ok h h2
   cases x with
   | tmp t =>
    cases h1
    exact⟨_,by simp only[resD,k1,Option.map_some],rtl_cons (rtl_getD h.env t) k2⟩
   | cell a t =>
    simp only[resT1] at h1
    split at h1
    ·rename_i d id off e1 e2
     split at h1
     ·rename_i l' e3
      have hg:=rtl_getD h.env a
      rw[e2] at hg
      generalize hd:env.getD a dundef=da at hg
      cases da<;>simp only[RT] at hg
      obtain⟨g1,rfl⟩:=hg
      obtain⟨id',ds',m1,m2,m3⟩:=h.cells id l' e3
      rw[g1] at m1
      cases m1
      obtain⟨q,m4,m5⟩:=partT_ok m3 h1
      exact⟨q::ds,by simp only[resD,hd,loadD,e1,m2,m4,k1],rtl_cons m5 k2⟩
     ·cases h1
    ·cases h1
  ·cases hx
theorem one_strip {ts:List (Option TT)} {vs:List TV} {ds:List DV} (hp:vs.all pureB=true) (h:RTl ι S vs ds):(oneOf ds).strip.pure=true∧RT ι' S' (oneV (normL ts vs)) (oneOf ds).strip:=by
 have many:∀ {ts:List (Option TT)} {l:List TV} {m:List DV},l.all pureB=true→RTl ι S l m→(m.map DV.strip2).all DV.pure2=true∧RTl ι' S' (normL ts l) (m.map DV.strip2):=by
  intro ts l
  induction l generalizing ts with
  | nil=>intro m _ h; rw[rtl_nil' h]; cases ts<;>exact⟨rfl,by simp only[normL,List.map_nil]; exact rtl_nil⟩
  | cons a l ih =>
   intro m hp h
   obtain⟨d,m',rfl,h1,h2⟩:=rtl_cases h
   simp only[List.all_cons,Bool.and_eq_true] at hp
   cases ts with
   | nil =>
    obtain⟨k1,k0,k2⟩:=norm_strip (t:=none) (ι':=ι') (S':=S') hp.1 h1
    obtain⟨k3,k4⟩:=ih (ts:=[]) hp.2 h2
    have e:d.strip=d.strip2:=by cases d<;>first | rfl | exact(k0 _ rfl).elim
    rw[e] at k1 k2
    have e2:d.strip2.pure2=true:=by cases d<;>first | exact k1 | exact(k0 _ rfl).elim
    exact⟨by rw[List.map_cons,List.all_cons,e2,k3]; rfl,by simp only[normL,List.map_cons]; exact rtl_cons k2 k4⟩
   | cons t ts =>
    obtain⟨k1,k0,k2⟩:=norm_strip (t:=t) (ι':=ι') (S':=S') hp.1 h1
    obtain⟨k3,k4⟩:=ih (ts:=ts) hp.2 h2
    have e:d.strip=d.strip2:=by cases d<;>first | rfl | exact(k0 _ rfl).elim
    rw[e] at k1 k2
    have e2:d.strip2.pure2=true:=by cases d<;>first | exact k1 | exact(k0 _ rfl).elim
    exact⟨by rw[List.map_cons,List.all_cons,e2,k3]; rfl,by simp only[normL,List.map_cons]; exact rtl_cons k2 k4⟩
 match vs,ds,hp,h with
 | [],ds,_,h=>rw[rtl_nil' h]; cases ts<;>exact⟨rfl,by simp only[normL,oneV,oneOf,DV.strip,RT,List.map_nil]; exact rtl_nil⟩
 | [v],ds,hp,h =>
  obtain⟨d,m',rfl,h1,h2⟩:=rtl_cases h
  rw[rtl_nil' h2]
  simp only[List.all_cons,List.all_nil,Bool.and_true] at hp
  cases ts with
  | nil =>
   obtain⟨k1,k0,k2⟩:=norm_strip (t:=none) (ι':=ι') (S':=S') hp h1
   exact⟨k1,k2⟩
  | cons t ts =>
   obtain⟨k1,k0,k2⟩:=norm_strip (t:=t) (ι':=ι') (S':=S') hp h1
   cases ts<;>exact⟨k1,k2⟩
 | v::u::l,ds,hp,h =>
  obtain⟨k1,k2⟩:=many (ts:=ts) hp h
  obtain⟨d,m',rfl,h1,h2⟩:=rtl_cases h
  obtain⟨d',m'',rfl,h3,h4⟩:=rtl_cases h2
  refine⟨k1,?_⟩
  have e:∀ {ts:List (Option TT)},oneV (normL ts (v::u::l)) = .tup (normL ts (v::u::l)):=by
   intro ts
   cases ts with
   | nil=>simp only[normL,oneV]
   | cons t ts=>cases ts<;>simp only[normL,oneV]
  rw[e]
  simp only[oneOf,DV.strip,RT]
  exact k2
theorem one_plain {ts:List (Option TT)} {vs:List TV} {ds:List DV} (hp:vs.all pureB=true) (h:RTl ι S vs ds):RT ι' S' (oneV (normL ts vs)) (oneOf ds):=by
 have k:=normL_plain (ts:=ts) (ι':=ι') (S':=S') hp h
 match vs,ds,hp,h,k with
 | [],ds,_,h,k=>rw[rtl_nil' h]; cases ts<;>(simp only[normL,oneV,oneOf,RT]; exact rtl_nil)
 | [v],ds,hp,h,k =>
  obtain⟨d,m',rfl,h1,h2⟩:=rtl_cases h
  rw[rtl_nil' h2] at k ⊢
  cases ts with
  | nil=>simp only[normL] at k ⊢; obtain⟨_,_,e,k1,-⟩:=rtl_cases k; cases e; exact k1
  | cons t ts=>cases ts<;>(simp only[normL] at k ⊢; obtain⟨_,_,e,k1,-⟩:=rtl_cases k; cases e; exact k1)
 | v::u::l,ds,hp,h,k =>
  obtain⟨d,m',rfl,h1,h2⟩:=rtl_cases h
  obtain⟨d',m'',rfl,h3,h4⟩:=rtl_cases h2
  have e:∀ {ts:List (Option TT)},oneV (normL ts (v::u::l)) = .tup (normL ts (v::u::l)):=by
   intro ts
   cases ts with
   | nil=>simp only[normL,oneV]
   | cons t ts=>cases ts<;>simp only[normL,oneV]
  rw[e]
  simp only[oneOf,RT]
  exact k
section
variable (P:Program) (ty:Tys) (tab:IsoF) (L:Nat)
def isoN (n:Nat):IsoF:=isoOf tab (deepP P ty tab L n).1
def callN (n:Nat):CallF:=(deepP P ty tab L n).1
def yfN (n:Nat):YldF:=(deepP P ty tab L n).2
end
def EndI (ty:Tys) (rs:List ResultVar) (rts:List (Option TT)) (Q:TV→Prop) (e:DX) (te:List TV) (tS:List TB):Prop :=
 (match e with | .exit _=>False | _=>True)∧∃ vs,resT ty te tS rs=some vs∧vs.all pureB=true∧refs (oneV (normL rts vs))=[]∧Q (oneV (normL rts vs))
theorem ispec_of {tab:IsoF} {L n:Nat} {f:FuncId} {fn:Func} {c:Code} {targs:List TV} {rts:List (Option TT)} {Q:TV→Prop} (hf:P.funcs[f]? = some fn) (hb:fn.body=some c) (ht:∀ a,tab f a=none)
  (h:WT P ty (isoN P ty tab L n) (callN P ty tab L n) (yfN P ty tab L n) [] L f false c (targs++List.replicate (fn.ntmps-targs.length) .unk) [] (EndI ty fn.results.toList rts Q)):ISpec (isoN P ty tab L (n+1)) f targs Q:=by
 intro dargs hd
 have hlen:=rtl_len hd
 have hR:RelT noIds (targs++List.replicate (fn.ntmps-targs.length) .unk) [] (dargs++List.replicate (fn.ntmps-dargs.length) dundef) []:=by
  refine⟨rtl_append hd (by rw[hlen]; exact rtl_rep _ _),fun k l hk=>(by simp at hk),fun k e s hk=>(by simp at hk),fun k k' hk=>(by cases hk),fun i j k' hi=>(by cases hi),fun k kt l hk=>(by simp at hk)⟩
 obtain⟨e,env',S',ι',te',tS',h1,h2,h3,h4,h5,h6⟩:=h noIds _ [] hR (fun k hk=>(by cases hk))
 obtain⟨h6,vs,h7,h8,h9,h10⟩:=h6
 obtain⟨ds,k1,k2⟩:=resT_ok h2 h7
 obtain⟨k3,k4⟩:=one_strip (ts:=rts) (ι':=noIds) (S':=[]) h8 k2
 refine⟨(oneOf ds).strip,_,?_,k3,k4,h9,h10⟩
 have hc:(deepP P ty tab L (n+1)).1 f dargs []=some (oneOf ds,S'):=by
  simp only[deepP,hf,bodyD,hb]
  have h1':codeD P ty (isoOf tab (deepP P ty tab L n).1) (deepP P ty tab L n).1 (deepP P ty tab L n).2 L f false c (dargs++List.replicate (fn.ntmps-dargs.length) dundef) []=some (e,env',S'):=h1
  rw[h1']
  cases e with
  | normal=>simp only[k1,Option.map_some]
  | ret=>simp only[k1,Option.map_some]
  | exit id=>exact h6.elim
 simp only[isoN,isoOf,ht,hc,k3,if_true]
def EndC (ty:Tys) (rs:List ResultVar) (rts:List (Option TT)) (cts:List (Option TT)) (Q:TV→List TV→Prop) (e:DX) (te:List TV) (tS:List TB):Prop :=
 (match e with | .exit _=>False | _=>True)∧∃ vs ts,resT ty te tS rs=some vs∧vs.all pureB=true∧refs (oneV (normL rts vs))=[]∧tS[0]? = some (.cells ts)∧ts.all pureB=true∧refsL (normL cts ts)=[]∧Q (oneV (normL rts vs)) (normL cts ts)
theorem cspec_of {tab:IsoF} {L n:Nat} {f:FuncId} {fn:Func} {c:Code} {targs ts:List TV} {rts cts:List (Option TT)} {Q:TV→List TV→Prop} (hf:P.funcs[f]? = some fn) (hb:fn.body=some c)
  (h:WT P ty (isoN P ty tab L n) (callN P ty tab L n) (yfN P ty tab L n) [0] L f false c (targs++List.replicate (fn.ntmps-targs.length) .unk) [.cells ts] (EndC ty fn.results.toList rts cts Q)):CSpec (callN P ty tab L (n+1)) f targs ts Q:=by
 intro ι dargs S hR
 have hlen:=rtl_len hR.env
 have hR':RelT ι (targs++List.replicate (fn.ntmps-targs.length) .unk) [.cells ts] (dargs++List.replicate (fn.ntmps-dargs.length) dundef) S :=
  ⟨rtl_append hR.env (by rw[hlen]; exact rtl_rep _ _),hR.cells,hR.own,hR.dom,hR.inj,hR.mp⟩
 obtain⟨e,env',S',ι',te',tS',h1,h2,h3,h4,h5,h6⟩:=h ι _ S hR' (fun k hk=>(by
  have:k=0:=by simpa using hk
  subst this
  exact⟨ts,rfl⟩))
 obtain⟨h6,vs,ts',h7,h8,h9,h10,h11,h12,h13⟩:=h6
 obtain⟨ds,k1,k2⟩:=resT_ok h2 h7
 obtain⟨k',ds',m1,m2,m3⟩:=h2.cells 0 ts' h10
 refine⟨oneOf ds,S',ι',_,normL cts ts',k',ds',?_,one_plain (ts:=rts) h8 k2,h9,h12,by rw[← h4.base 0 (by simp)]; exact m1,m2,normL_plain h11 m3,h4,h5,h13⟩
 simp only[callN,deepP,hf,bodyD,hb]
 have h1':codeD P ty (isoOf tab (deepP P ty tab L n).1) (deepP P ty tab L n).1 (deepP P ty tab L n).2 L f false c (dargs++List.replicate (fn.ntmps-dargs.length) dundef) S=some (e,env',S'):=h1
 rw[h1']
 cases e with
 | normal=>simp only[k1,Option.map_some]
 | ret=>simp only[k1,Option.map_some]
 | exit id=>exact h6.elim
end Go.Tv
end
section
namespace Go.Tv
open Go Go.Di
def mkE (n:Nat) (l:List (Nat×TV)):List TV:=(List.range n).map fun i=>match l.find? fun p=>p.1==i with
 | some p=>p.2
 | none => .unk
def maskE (ks:List Nat):Nat→List TV→List TV
 | _,[]=>[]
 | i,v::l=>(if ks.contains i then v else .unk)::maskE ks (i+1) l
def andC (a b:Prop):Prop:=a∧b
section
variable (P:Program) (ty:Tys) (tt:TypeId→Option TT)
def segT (m:Nat) (ops:Array Oper) (k:Nat) (te:List TV) (tS:List TB):Option RR:=runT P ty tt ops none ((ops.toList.drop k).take m) k te tS
def segD (m:Nat) (ops:Array Oper) (n0:Nat) (k:Nat) (te:List TV) (tS:List TB):Option RR:=runT P ty tt ops (some n0) ((ops.toList.drop k).take m) k te tS
def segQ (m:Nat) (ops:Array Oper) (k:Nat) (te:List TV) (tS:List TB):Option (Nat×List TV×Prop):=runTQ P ty tt ops tS ((ops.toList.drop k).take m) k te
def callT (ops:Array Oper) (k:Nat) (te:List TV):Option (FuncId×List TV×Option Tmp) :=
 match ops[k]? with
 | some o=>match o.op,wantedT ops te o with
  | .call { callee := .value f,args,argTypes },some true=>match evT te f,evsT te args.toList with
   | some (.fn g fs cs),some xs=>if (fs++xs++cs).all pureB then some (g,normL (argTys tt fs argTypes) (fs++xs++cs),o.dst) else none
   | _,_=>none
  | _,_=>none
 | none=>none
def refOf:List TV→Option Nat
 | []=>none
 | v::l=>match refs v with
  | k::_=>if isRef v then some k else refOf l
  | []=>refOf l
def pcallT (ops:Array Oper) (k:Nat) (te:List TV) (tS:List TB):Option (FuncId×Nat×List TV×List TV×Option Tmp) :=
 match ops[k]? with
 | some o=>match o.op,wantedT ops te o with
  | .call { callee := .value f,args,argTypes },some true=>match evT te f,evsT te args.toList with
   | some (.fn g fs cs),some xs=>match refOf (fs++xs++cs) with
    | some kp=>match argsP kp (argTys tt fs argTypes) (fs++xs++cs),tS[kp]? with
     | some targs,some (.cells ts)=>if (fs++xs++cs).any isRef&&(refsL ts).isEmpty then some (g,kp,targs,ts,o.dst) else none
     | _,_=>none
    | none=>none
   | _,_=>none
  | _,_=>none
 | none=>none
end
variable {P:Program} {ty:Tys} {tt:TypeId→Option TT} {ι ι' w:Ids} {S S':Store} {te te1:List TV} {env:List DV} {tS tS1:List TB} {iso:IsoF} {call:CallF} {yf:YldF} {o:Oper} {nid nT:Nat} {B:List Nat} {r:TR} {ops:Array Oper} {L:Nat} {fn:FuncId} {rnd:Bool} {a b c:Code} {Q Q':DX→List TV→List TB→Prop}
variable {fs:List Foot}
def WI (P:Program) (ty:Tys) (iso:IsoF) (call:CallF) (yf:YldF) (B:List Nat) (L:Nat) (fn:FuncId) (rnd:Bool) (n:Nat) (c:Code) (te:List TV) (tS:List TB) (Q:DX→List TV→List TB→Prop):Prop :=
 ∀ ι env S,RelT ι te tS env S→BOK B tS→∃ e env' S' ι' te' tS',iterD (codeD P ty iso call yf L fn rnd c) n env S=some (e,env',S')∧RelT ι' te' tS' env' S'∧BOK B tS'∧Fr B ι S ι' S'∧Nn S.length S S'∧Q e te' tS'
theorem iter_more {f:List DV→Store→Option (DX×List DV×Store)}:∀ {n m:Nat} {env:List DV} {S:Store} {r:DX×List DV×Store},n≤m→iterD f n env S=some r→iterD f m env S=some r
 | 0,_,_,_,_,_,h=>by cases h
 | n+1,0,_,_,_,hn,_=>by omega
 | n+1,m+1,env,S,r,hn,h=>by
  simp only[iterD] at h ⊢
  split at h
  ·rename_i env' S' e
   exact iter_more (by omega) h
  ·exact h
theorem wt_unroll {n:Nat} (hn:n≤L) (h:WI P ty iso call yf B L fn rnd n c te tS Q):WT P ty iso call yf B L fn rnd (.loop c) te tS Q:=by
 intro ι env S hR hB
 obtain⟨e,env',S',ι',te',tS',h1,h2⟩:=h ι env S hR hB
 exact⟨e,env',S',ι',te',tS',by simp only[codeD]; exact iter_more hn h1,h2⟩
theorem wi_step {n:Nat} (h:WT P ty iso call yf B L fn rnd c te tS fun e te tS=>match e with | .normal=>WI P ty iso call yf B L fn rnd n c te tS Q | e=>Q e te tS):WI P ty iso call yf B L fn rnd (n+1) c te tS Q:=by
 intro ι env S hR hB
 obtain⟨e,env',S',ι',te',tS',h1,h2,h3,h4,h5,h6⟩:=h ι env S hR hB
 cases e with
 | normal =>
  obtain⟨e,env'',S'',ι'',te'',tS'',k1,k2,k3,k4,k5,k6⟩:=h6 ι' env' S' h2 h3
  exact⟨e,env'',S'',ι'',te'',tS'',by simp only[iterD,h1,k1],k2,k3,h4.trans k4,nn_trans h5 k5,k6⟩
 | exit id=>exact⟨_,env',S',ι',te',tS',by simp only[iterD,h1],h2,h3,h4,h5,h6⟩
 | ret=>exact⟨_,env',S',ι',te',tS',by simp only[iterD,h1],h2,h3,h4,h5,h6⟩
theorem wt_join {σ:Type} (f:σ→List TV×List TB) (good:σ→Prop) (h1:WT P ty iso call yf B L fn rnd a te tS fun e te tS=>match e with | .normal=>∃ s,Fits B (f s).1 (f s).2 te tS∧good s | e=>Q e te tS)
  (h2:∀ s,good s→WT P ty iso call yf B L fn rnd b (f s).1 (f s).2 Q):WT P ty iso call yf B L fn rnd (.seq a b) te tS Q:=by
 refine wt_seq (h1.mono ?_)
 intro e te tS hq
 cases e with
 | normal =>
  obtain⟨s,hf,hg⟩:=hq
  exact wt_less hf.l hf.b hf.ok hf.base (h2 s hg)
 | exit id=>exact hq
 | ret=>exact hq
def relab (t:TT) (g:Nat):TV→TV
 | .nils => .sl t [] (.lab g)
 | .sl k [] .full => .sl k [] (.lab g)
 | v=>v
def relabE (ls:List (Nat×TT×Nat)):Nat→List TV→List TV
 | _,[]=>[]
 | i,v::l=>(match ls.find? fun p=>p.1==i with
  | some p=>relab p.2.1 p.2.2 v
  | none=>v)::relabE ls (i+1) l
def relabB (rl:List (Nat×List (Nat×TT×Nat))):Nat→List TB→List TB
 | _,[]=>[]
 | i,.cells c::l => .cells (match rl.find? fun p=>p.1==i with
  | some p=>relabE p.2 0 c
  | none=>c)::relabB rl (i+1) l
 | i,b::l=>b::relabB rl (i+1) l
def fitB (rl:List (Nat×List (Nat×TT×Nat))) (n:Nat) (owns:List (Nat×Nat)) (tS:List TB):List TB :=
 if owns.isEmpty||tS.length≤n then relabB rl 0 (tS.take n)++owns.map fun p => .own p.1 p.2 else []
theorem leB_owns:∀ owns:List (Nat×Nat),LeB (owns.map fun p=>TB.own p.1 p.2) []
 | [] => .nil
 | _::l => .new (leB_owns l)
theorem LeL.trans {l m k:List TV} (h:LeL l m):∀ (ks:List Nat) (i:Nat),m=maskE ks i k→LeL l k:=by
 induction h generalizing k with
 | nil =>
  intro ks i e
  cases k with
  | nil=>exact .nil
  | cons=>simp only[maskE] at e; cases e
 | unk _ ih=>intro ks i e; cases k with | nil=>simp only[maskE] at e; cases e | cons v k=>simp only[maskE,List.cons.injEq] at e; exact .unk (ih ks (i+1) e.2)
 | same _ ih =>
  intro ks i e
  cases k with
  | nil=>simp only[maskE] at e; cases e
  | cons v k =>
   simp only[maskE,List.cons.injEq] at e
   obtain⟨rfl,e⟩:=e
   split
   ·exact .same (ih ks (i+1) e)
   ·exact .unk (ih ks (i+1) e)
 | no _ ih =>
  intro ks i e
  cases k with
  | nil=>simp only[maskE] at e; cases e
  | cons v k =>
   simp only[maskE,List.cons.injEq] at e
   obtain⟨e1,e⟩:=e
   split at e1
   ·subst e1; exact .no (ih ks (i+1) e)
   ·cases e1
 | lab _ ih =>
  intro ks i e
  cases k with
  | nil=>simp only[maskE] at e; cases e
  | cons v k =>
   simp only[maskE,List.cons.injEq] at e
   obtain⟨e1,e⟩:=e
   split at e1
   ·subst e1; exact .lab (ih ks (i+1) e)
   ·cases e1
 | nils _ ih =>
  intro ks i e
  cases k with
  | nil=>simp only[maskE] at e; cases e
  | cons v k =>
   simp only[maskE,List.cons.injEq] at e
   obtain⟨e1,e⟩:=e
   split at e1
   ·subst e1; exact .nils (ih ks (i+1) e)
   ·cases e1
 | agg ha _ _ ih =>
  intro ks i e
  cases k with
  | nil=>simp only[maskE] at e; cases e
  | cons v k =>
   simp only[maskE,List.cons.injEq] at e
   obtain⟨e1,e⟩:=e
   split at e1
   ·subst e1; exact .agg ha (ih ks (i+1) e)
   ·cases e1
end Go.Tv
end
section
namespace Go.Tv
open Go Go.Di Go.Proofs
abbrev I64:TT := .int .i64
abbrev IntsT:TT := .sl I64
abbrev PieceT:TT := .pair IntsT (.pair IntsT (.pair I64 (.pair IntsT .unit)))
abbrev RangeT:TT := .pair I64 (.pair I64 .unit)
abbrev SeamT:TT := .pair I64 (.pair I64 (.pair I64 .unit))
abbrev WayT:TT := .pair .bool (.pair SeamT .unit)
def ttL:List (Nat×TT):=[(3,I64),(4,.bool),(30,I64),(22,IntsT),(26,PieceT),(28,.sl PieceT),(77,RangeT),(57,.int .u64),(56,SeamT),(33,.sl SeamT),(81,SeamT),(41,.sl SeamT),(44,.sl IntsT),(9,.str),(110,WayT),(107,WayT),(108,.sl .bool)]
def ttb (t:TypeId):Option TT:=(ttL.find? fun p=>p.1==t).map (·.2)
abbrev vv:=TV.val
abbrev vi:=Value.int IntKind.i64
abbrev vb:=Value.bool
abbrev ival (n:Int):TV := .val (.int .i64 n)
abbrev bval (b:Bool):TV := .val (.bool b)
noncomputable abbrev Tp:Program:=Try.prog
noncomputable abbrev Ty:Tys:=tyOf Try.prog
def LL:Nat:=1000000
structure TabK (tab:IsoF):Prop where
 other:∀ f a,f≠33→f≠83→f≠13→f≠67→f≠0→tab f a=none
 fit:tab 13 []=some (.val (.bool true))
section
variable (tab:IsoF) (n:Nat)
noncomputable abbrev isoT:IsoF:=isoN Tp Ty tab LL n
noncomputable abbrev callT':CallF:=callN Tp Ty tab LL n
noncomputable abbrev yfT:YldF:=yfN Tp Ty tab LL n
end
theorem wr_i64 {n:Int} (h : -9223372036854775808≤n) (h':n≤9223372036854775807):IntKind.i64.wrap n=n:=by rw[IntKind.wrap_i64]; omega
end Go.Tv
end
section
namespace Go.Tv
open Go Go.Di
def NSpec (iso:IsoF) (call:CallF) (g:FuncId) (targs:List TV) (Q:List TV→Prop):Prop :=
 ∀ dargs S,RTl noIds S targs dargs→(∀ ds,RTl noIds [] targs ds→iso g ds=none)∧∃ S' id ds ts,call g dargs S=some (.ptr id 0,S')∧¬ Lv S id∧S'[id]? = some (.cells ds)∧RTl noIds [] ts ds∧refsL ts=[]∧(∀ k',Lv S k'→S'[k']? = S[k']?)∧Nn S.length S S'∧Q ts
theorem NSpec.mono {iso:IsoF} {call:CallF} {g:FuncId} {targs:List TV} {Q Q':List TV→Prop} (h:NSpec iso call g targs Q) (hq:∀ v,Q v→Q' v):NSpec iso call g targs Q':=fun dargs S hd=>by
 obtain⟨h0,S',id,ds,ts,h1,h2,h3,h4,h5,h6,h7,h8⟩:=h dargs S hd
 exact⟨h0,S',id,ds,ts,h1,h2,h3,h4,h5,h6,h7,hq _ h8⟩
variable {P:Program} {ty:Tys} {tt:TypeId→Option TT} {ι ι' w:Ids} {S S':Store} {te te1:List TV} {env:List DV} {tS tS1:List TB} {iso:IsoF} {call:CallF} {yf:YldF} {o:Oper} {nid nT:Nat} {B:List Nat} {r:TR} {ops:Array Oper}
theorem does_ncall {f:Operand} {args:Array Operand} {argTypes:Array TypeId} {g:FuncId} {fs cs xs targs:List TV} {Q:List TV→Prop} (hop:o.op = .call { callee := .value f,args,argTypes }) (hf:evT te f=some (.fn g fs cs)) (ha:evsT te args.toList=some xs) (hp:(fs++xs++cs).all pureB=true)
  (hn:normL (argTys tt fs argTypes) (fs++xs++cs)=targs) (hs:NSpec iso call g targs Q):Does P ty iso call yf B o nT te tS false fun v te' tS' _=>∃ ts,Q ts∧v = .ptr nT 0∧te'=te∧tS'=setT tS nT (.cells ts):=by
 intro ι w env S nid hR hB hw hT hnd hS
 obtain⟨fs',cs',xs',k1,k2,k3⟩:=icall_args hR.env hf ha
 obtain⟨k4,k5⟩:=normL_strip (ts:=argTys tt fs argTypes) (ι':=noIds) (S':=[]) hp k3
 have k6:=normL_plain (ts:=argTys tt fs argTypes) (ι':=noIds) (S':=S) hp k3
 rw[hn] at k5 k6
 obtain⟨h0,S',id,ds,ts,m1,m2,m3,m4,m5,m6,m7,m8⟩:=hs _ S k6
 have hne:∀ {k k':Nat},ι k=some k'→k'≠id:=fun hk e=>m2 (e▸hR.live hk)
 have hnew:ι nT=none:=hR.new hT
 have K:Keeps ι S (upd ι nT id) S' fun _=>False:=fun k k' _ hk=>by
  have h1:k≠nT:=by rintro rfl; rw[hnew] at hk; cases hk
  exact⟨by simp only[upd,h1,if_false]; exact hk,fun e s n hs=>by rw[m6 k' (hR.live hk)]; exact hs⟩
 refine⟨.ptr id 0,S',upd ι nT id,fun j=>if j=id then some nT else w j,.ptr nT 0,te,setT tS nT (.cells ts),⟨none,true⟩,⟨none,true⟩,fun _ => ?_,fun e=>(by cases e),⟨fun e=>e,fun l hl=>(by cases hl)⟩,fun l m hl=>(by cases hl),?_,by simp[RT,upd],?_,?_,?_,bok_setT hB hT,⟨m7.1,fun j hj hnone=>m7.2 j (by have:=(List.getElem?_eq_some_iff.1 hnone).1; omega) hnone⟩,ts,m8,rfl,rfl,rfl⟩
 ·simp only[stepOp,hop,k1,k2,callD,k4,if_true,h0 _ k5,m1]
 ·refine⟨rtl_mono K _ _ hR.env,fun k l hk => ?_,fun k e s hk t ht => ?_,fun k k' hk => ?_,fun i j k' hi hj => ?_,fun k kt l hk t ht => ?_⟩
  ·rw[setT_get hT] at hk
   split at hk
   ·rename_i e
    subst e
    cases hk
    exact⟨id,ds,by simp[upd],m3,rtl_norefs _ _ m5 m4⟩
   ·rename_i e
    obtain⟨k',ds',h1,h2,h3⟩:=hR.cells k l hk
    exact⟨k',ds',by simp only[upd,e,if_false]; exact h1,by rw[m6 k' (hR.live h1)]; exact h2,rtl_mono K _ _ h3⟩
  ·rw[setT_get hT] at hk
   split at hk
   ·cases hk
   ·rename_i e'
    simp only[upd,e',if_false] at ht
    obtain⟨n,h1⟩:=hR.own k e s hk t ht
    exact⟨n,by rw[m6 t (hR.live ht)]; exact h1⟩
  ·rw[setT_get hT]
   split
   ·exact⟨_,rfl,fun e=>by cases e⟩
   ·rename_i e
    simp only[upd,e,if_false] at hk
    exact hR.dom k k' hk
  ·unfold upd at hi hj
   split at hi<;>split at hj
   ·omega
   ·cases hi; exact(hne hj rfl).elim
   ·cases hj; exact(hne hi rfl).elim
   ·exact hR.inj i j k' hi hj
  ·rw[setT_get hT] at hk
   split at hk
   ·cases hk
   ·rename_i e'
    simp only[upd,e',if_false] at ht
    rw[m6 t (hR.live ht)]; exact hR.mp k kt l hk t ht
 ·intro a b hab
  unfold upd at hab
  split at hab
  ·rename_i e; subst e; cases hab; simp
  ·simp only[hne hab,if_false]; exact hw _ _ hab
 ·intro e; cases e
 ·refine⟨fun k' hl _=>m6 k' hl,fun k k' hk => ?_,fun k hk => ?_⟩
  ·unfold upd at hk
   split at hk
   ·cases hk; exact .inr m2
   ·exact .inl ⟨k,hk⟩
  ·have:=bok_new hB hT
   unfold upd
   rw[if_neg (fun e:k=nT=>this (e▸hk))]
def EndN (ty:Tys) (rs:List ResultVar) (cts:List (Option TT)) (Q:List TV→Prop) (e:DX) (te:List TV) (tS:List TB):Prop :=
 (match e with | .exit _=>False | _=>True)∧∃ ts,resT ty te tS rs=some [.ptr 0 0]∧tS[0]? = some (.cells ts)∧ts.all pureB=true∧refsL (normL cts ts)=[]∧Q (normL cts ts)
theorem nspec_of {tab:IsoF} {L n:Nat} {f:FuncId} {fn:Func} {c:Code} {targs:List TV} {cts:List (Option TT)} {Q:List TV→Prop} (hf:P.funcs[f]? = some fn) (hb:fn.body=some c) (ht:∀ a,tab f a=none)
  (h:WT P ty (isoN P ty tab L n) (callN P ty tab L n) (yfN P ty tab L n) [] L f false c (targs++List.replicate (fn.ntmps-targs.length) .unk) [] (EndN ty fn.results.toList cts Q)):NSpec (isoN P ty tab L (n+1)) (callN P ty tab L (n+1)) f targs Q:=by
 have key:∀ dargs S,RTl noIds S targs dargs→∃ S' id ds ts,(deepP P ty tab L (n+1)).1 f dargs S=some (.ptr id 0,S')∧¬ Lv S id∧S'[id]? = some (.cells ds)∧RTl noIds [] ts ds∧refsL ts=[]∧(∀ k',Lv S k'→S'[k']? = S[k']?)∧Nn S.length S S'∧Q ts:=by
  intro dargs S hd
  have hlen:=rtl_len hd
  have hR:RelT noIds (targs++List.replicate (fn.ntmps-targs.length) .unk) [] (dargs++List.replicate (fn.ntmps-dargs.length) dundef) S:=by
   refine⟨rtl_append hd (by rw[hlen]; exact rtl_rep _ _),fun k l hk=>(by simp at hk),fun k e s hk=>(by simp at hk),fun k k' hk=>(by cases hk),fun i j k' hi=>(by cases hi),fun k kt l hk=>(by simp at hk)⟩
  obtain⟨e,env',S',ι',te',tS',h1,h2,h3,h4,h5,h6⟩:=h noIds _ S hR (fun k hk=>(by cases hk))
  obtain⟨h6,ts,h7,h8,h9,h10,h11⟩:=h6
  obtain⟨ds,k1,k2⟩:=resT_ok h2 h7
  obtain⟨d,m',rfl,k3,k4⟩:=rtl_cases k2
  rw[rtl_nil' k4] at k1
  cases d<;>simp only[RT] at k3
  rename_i id off
  obtain⟨k3,rfl⟩:=k3
  obtain⟨id',ds',m1,m2,m3⟩:=h2.cells 0 ts h8
  rw[k3] at m1
  cases m1
  refine⟨S',id,ds',normL cts ts,?_,?_,m2,normL_plain h9 m3,h10,fun k' hl=>h4.rest k' hl (fun k hk=>by cases hk),h5,h11⟩
  ·simp only[deepP,hf,bodyD,hb]
   have h1':codeD P ty (isoOf tab (deepP P ty tab L n).1) (deepP P ty tab L n).1 (deepP P ty tab L n).2 L f false c (dargs++List.replicate (fn.ntmps-dargs.length) dundef) S=some (e,env',S'):=h1
   rw[h1']
   cases e with
   | normal=>simp only[k1,Option.map_some,oneOf]
   | ret=>simp only[k1,Option.map_some,oneOf]
   | exit id=>exact h6.elim
  ·rcases h4.ours 0 id k3 with ⟨j,hj⟩ | hl
   ·cases hj
   ·exact hl
 intro dargs S hd
 refine⟨fun ds hds => ?_,key dargs S hd⟩
 obtain⟨S',id,ds',ts,k1,-⟩:=key ds [] hds
 simp only[isoN,isoOf,ht,k1,DV.strip,DV.strip2,DV.pure,DV.pure2,Bool.false_eq_true,if_false]
end Go.Tv
end
section
namespace Go.Tv
open Go Go.Di Go.Proofs
variable {P:Program}
theorem pureS_bindE {α β:Type} (s:Sem α) (f:α→Sem β):pureS P (s >>= f)=(pureS P s).bind fun a=>pureS P (f a):=by
 change pureS P (s.bind f)=_
 cases s with
 | pure a=>rfl
 | program k =>
  simp only[Sem.bind,pureS]
  generalize k P=s'
  induction s' with
  | pure a=>rfl
  | program k ih=>simp only[Sem.bind,pureS]; exact ih P
  | _=>simp only[Sem.bind,pureS,Option.bind_none]
 | _=>simp only[Sem.bind,pureS,Option.bind_none]
theorem pureS_pure {α:Type} (a:α):pureS P (pure a:Sem α)=some a:=rfl
theorem pureS_program:pureS P program=some P:=rfl
theorem pureS_underlying {t:TypeId} {d:TypeDesc} (h:P.underlying t=some d):pureS P (underlying t)=some d:=by
 unfold underlying
 rw[pureS_bindE,pureS_program]
 simp only[Option.bind_some,h]
 rfl
theorem pureS_int (d:Nat) (t:TypeId) (k k':IntKind) (a b:Int) (h:P.underlying t=some (.int k')):pureS P (Op.equalIn (d+1) t (.int k a) (.int k b))=some (a==b):=by
 simp only[Op.equalIn,pureS_bindE,pureS_underlying h,Option.bind_some,if_true]
 rfl
theorem pureS_ite {α:Type} {c:Prop} [Decidable c] {a b:Sem α}:pureS P (if c then a else b)=if c then pureS P a else pureS P b:=by split<;>rfl
theorem pureS_struct (d:Nat) (t:TypeId) (xs ys:Array Value) (ht:P.underlying t=some (.struct (P.fieldsOf t))) (hp:P.stoodInHeld t=false) :
  pureS P (Op.equalIn (d+1) t (.agg xs) (.agg ys))=pureS P (Op.eqFields d xs ys (P.fieldsOf t).toList):=by
 simp only[Op.equalIn,pureS_bindE,pureS_underlying ht,Option.bind_some,pureS_program,hp,Bool.false_eq_true,if_false]
 rw[← Array.forIn_toList]
 generalize (P.fieldsOf t).toList=fs
 clear ht
 induction fs with
 | nil=>rfl
 | cons f fs ih =>
  simp only[List.forIn_cons,Op.eqFields,pureS_bindE,pureS_ite]
  split
  ·generalize pureS P (part f.type xs f.offset)=r1
   cases r1 with
   | none=>rfl
   | some a =>
    generalize pureS P (part f.type ys f.offset)=r2
    cases r2 with
    | none=>rfl
    | some b =>
     simp only[Option.bind_some]
     generalize pureS P (Op.equalIn d f.type a b)=r3
     cases r3 with
     | none=>rfl
     | some r =>
      cases r
      ·simp only[Option.bind_some,Bool.not_false,if_true,pureS_pure]
      ·simp only[Option.bind_some,Bool.not_true,Bool.false_eq_true,if_false,pureS_pure]
       exact ih
  ·simp only[pureS_pure,Option.bind_some]
   exact ih
theorem eqF_nil {d:Nat} {xs ys:Array Value}:pureS P (Op.eqFields d xs ys [])=some true:=rfl
theorem eqF_cons {d : Nat} {xs ys : Array Value} {f : Field} {fs : List Field} {k k' : IntKind} {a b : Int} {r : Bool} (hn : (f.name != "_") = true) (ha : pureS P (part f.type xs f.offset) = some (.int k a)) (hb : pureS P (part f.type ys f.offset) = some (.int k b)) (hu : P.underlying f.type = some (.int k')) (hr : pureS P (Op.eqFields (d + 1) xs ys fs) = some r) : pureS P (Op.eqFields (d + 1) xs ys (f :: fs)) = some ((a == b) && r) := by
 have hn' : f.name ≠ "_" := by simpa using hn
 simp only[Op.eqFields,hn',ne_eq,not_false_eq_true,if_true,pureS_bindE,ha,hb,Option.bind_some,pureS_int d _ _ _ _ _ hu]
 cases h:(a==b)
 ·rfl
 ·simp only[Bool.not_true,Bool.false_eq_true,if_false,Bool.true_and]; exact hr
theorem cmp_neq {t:TypeId} {xs ys:Array Value} {b:Bool} (ht:P.underlying t=some (.struct (P.fieldsOf t))) (hp:P.stoodInHeld t=false) (hm:P.eqGuardType P.depth t=false) (hf:pureS P (Op.eqFields 9999 xs ys (P.fieldsOf t).toList)=some b) (x y:Operand) :
  pureD P (do eqGuard .neq t x y (.agg xs) (.agg ys); binOp .neq t (.agg xs) (.agg ys))=some (.val (.bool !b)):=by
 have h1:pureS P (eqGuard .neq t x y (.agg xs) (.agg ys))=some ():=by
  simp only[eqGuard]
  simp only[Bool.not_true,Bool.false_eq_true,if_false,pureS_bindE,pureS_program,Option.bind_some,hm,Bool.not_false,if_true]
  rfl
 have h2:pureS P (binOp .neq t (.agg xs) (.agg ys))=some (.bool !b):=by
  simp only[binOp,pureS_bindE,Op.equal,Op.maxDepth,pureS_struct 9999 t xs ys ht hp,hf,Option.bind_some]
  rfl
 rw[pureD,pureS_bindE,h1,Option.bind_some,h2]
 rfl
variable {ty:Tys} {tt:TypeId→Option TT} {ι ι' w:Ids} {S S':Store} {te te1:List TV} {env:List DV} {tS tS1:List TB} {iso:IsoF} {call:CallF} {yf:YldF} {o:Oper} {nid nT:Nat} {B:List Nat} {ops:Array Oper}
theorem wq_bin {k:Nat} {dst:Option Tmp} {op:BinOp} {t:TypeId} {x y:Operand} {u:TypeId} {a b v:Value} {Q:List TV→Prop} (ho:(ops[k]?).bind (fun o=>match o.op with | .binOp op t x y u=>if wantedT ops te o=some true then some (op,t,x,y,u,o.dst) else none | _=>none)=some (op,t,x,y,u,dst)) (hx:(evT te x).bind toValT=some a) (hy:(evT te y).bind toValT=some b)
  (hv:pureD P (do eqGuard op t x y a b; binOp op t a b)=some (.val v)) (h:WQ P ty iso call yf ops tS (k+1) (putTV te dst (.val v)) Q):WQ P ty iso call yf ops tS k te Q:=by
 simp only[Option.bind_eq_some_iff] at ho
 obtain⟨o,h1,h2⟩:=ho
 split at h2
 ·rename_i op' t' x' y' u' hop
  split at h2
  ·rename_i hw
   cases h2
   refine wq_pure (tt:=fun _=>none) (c:=True) h1 hw ?_ trivial h
   simp only[pureT,hop,hx,hy,hv,valT,Option.map_some]
  ·cases h2
 ·cases h2
theorem wl_bin {k:Nat} {dst:Option Tmp} {op:BinOp} {t:TypeId} {x y:Operand} {u:TypeId} {a b v:Value} {Q:List TV→List TB→Prop} (ho:(ops[k]?).bind (fun o=>match o.op with | .binOp op t x y u=>if wantedT ops te o=some true then some (op,t,x,y,u,o.dst) else none | _=>none)=some (op,t,x,y,u,dst)) (hx:(evT te x).bind toValT=some a) (hy:(evT te y).bind toValT=some b)
  (hv:pureD P (do eqGuard op t x y a b; binOp op t a b)=some (.val v)) (h:WL P ty iso call yf B ops (k+1) (putTV te dst (.val v)) tS Q):WL P ty iso call yf B ops k te tS Q:=by
 simp only[Option.bind_eq_some_iff] at ho
 obtain⟨o,h1,h2⟩:=ho
 split at h2
 ·rename_i op' t' x' y' u' hop
  split at h2
  ·rename_i hw
   cases h2
   have hst:stepT P ty (fun _=>none) te tS o tS.length=some ⟨.val v,te,tS,[],True⟩:=by
    simp only[stepT,pureT,hop,hx,hy,hv,valT,Option.map_some,readsT]
   refine wl_op h1 hw (does_step hst trivial false) ?_
   rintro v te' tS' ft ⟨rfl,rfl,rfl,-⟩
   exact h
  ·cases h2
 ·cases h2
theorem cmp_43 (a1 a2 b1 b2:Int) (x y:Operand):pureD Tp (do eqGuard .neq 77 x y (.agg #[.int .i64 a1,.int .i64 a2]) (.agg #[.int .i64 b1,.int .i64 b2]); binOp .neq 77 (.agg #[.int .i64 a1,.int .i64 a2]) (.agg #[.int .i64 b1,.int .i64 b2]))=some (.val (.bool !((a1==b1)&&((a2==b2)&&true)))):=by
 refine cmp_neq (by kernel_rfl) (by kernel_rfl) (by kernel_rfl) ?_ x y
 have e:(Tp.fieldsOf 77).toList=[(Tp.fieldsOf 77).toList.getD 0 default,(Tp.fieldsOf 77).toList.getD 1 default]:=by kernel_rfl
 rw[e]
 exact eqF_cons (k := .i64) (k' := .i64) (by kernel_rfl) (by kernel_rfl) (by kernel_rfl) (by kernel_rfl) (eqF_cons (k := .i64) (k' := .i64) (by kernel_rfl) (by kernel_rfl) (by kernel_rfl) (by kernel_rfl) eqF_nil)
end Go.Tv
end
section
namespace Go.Tv
open Go Go.Di Go.Proofs
def decD:(t:TT)→DecidableEq t.den
 | .int _=>inferInstanceAs (DecidableEq Int)
 | .bool=>inferInstanceAs (DecidableEq Bool)
 | .str=>inferInstanceAs (DecidableEq ByteArray)
 | .unit=>inferInstanceAs (DecidableEq Unit)
 | .pair a b=>fun x y=>@instDecidableEqProd _ _ (decD a) (decD b) x y
 | .sl t=>fun x y=>@instDecidableEqList _ (decD t) x y
def memD (t:TT) (x:t.den) (l:List t.den):Bool:=l.any fun y=>@decide (x=y) (decD t x y)
def insD (t:TT) (x:t.den) (l:List t.den):List t.den:=bif memD t x l then l else l++[x]
theorem memD_iff {t:TT} {x:t.den} {l:List t.den}:memD t x l=true↔x∈l:=by
 simp[memD]
structure MapOK (P:Program) (t:TypeId) (kt:TT):Prop where
 look:∀ (x:kt.den) (l:List kt.den),pureS P (lookM t ((entM kt l).map Di.mkE) (keyM kt x) false)=some (.bool (memD kt x l))
 find:∀ (x:kt.den) (l:List kt.den),∃ r,pureS P (findM t ((entM kt l).map Di.mkE) (keyM kt x))=some r∧setM (entM kt l) (keyM kt x) (.bool true) r=some (entM kt (insD kt x l))
def keyT (kt:TT) (v:TV):Option kt.den :=
 match v with
 | .agg l=>match toCellsT l,kt.of l with
  | some vs,some (x,[])=>if vs.length=(valsT kt x).length then some x else none
  | _,_=>none
 | _=>none
def mapT (P:Program) (tt:TypeId→Option TT) (te:List TV) (tS:List TB) (o:Oper) (nT:Nat):Option (TV×List TB×Prop) :=
 match o.op with
 | .makeMap t none=>match tt t with
  | some kt=>some (.mp nT,setT tS nT (.map kt []),True)
  | none=>none
 | .lookup t m k false=>match evT te m,evT te k with
  | some (.mp id),some v=>match tS[id]? with
   | some (.map kt l)=>match keyT kt v with
    | some x=>some (.val (.bool (memD kt x l)),tS,MapOK P t kt)
    | none=>none
   | _=>none
  | _,_=>none
 | .mapUpdate t m k y=>match evT te m,evT te k,evT te y with
  | some (.mp id),some v,some (.val (.bool true))=>match tS[id]? with
   | some (.map kt l)=>match keyT kt v with
    | some x=>some (.unk,tS.set id (.map kt (insD kt x l)),MapOK P t kt)
    | none=>none
   | _=>none
  | _,_,_=>none
 | _=>none
theorem of_vals:∀ {t:TT} {l:List TV} {x:t.den} {r:List TV} {vs:List Value},t.of l=some (x,r)→toCellsT l=some vs→∃ vs',toCellsT r=some vs'∧vs=valsT t x++vs'
 | .int k,l,x,r,vs,h,hv=>by
  simp only[TT.of] at h
  unfold ofInt at h
  split at h
  ·split at h
   ·rename_i hk
    subst hk
    cases h
    simp only[toCellsT,Option.map_eq_some_iff] at hv
    obtain⟨vs',h1,rfl⟩:=hv
    exact⟨vs',h1,rfl⟩
   ·cases h
  ·cases h
 | .bool,l,x,r,vs,h,hv=>by
  simp only[TT.of] at h
  unfold ofBool at h
  split at h
  ·cases h
   simp only[toCellsT,Option.map_eq_some_iff] at hv
   obtain⟨vs',h1,rfl⟩:=hv
   exact⟨vs',h1,rfl⟩
  ·cases h
 | .str,l,x,r,vs,h,hv=>by
  simp only[TT.of] at h
  unfold ofStr at h
  split at h
  ·cases h
   simp only[toCellsT,Option.map_eq_some_iff] at hv
   obtain⟨vs',h1,rfl⟩:=hv
   exact⟨vs',h1,rfl⟩
  ·cases h
 | .unit,l,x,r,vs,h,hv=>by
  simp only[TT.of] at h
  cases h
  exact⟨vs,hv,rfl⟩
 | .sl t,l,x,r,vs,h,hv=>by
  simp only[TT.of] at h
  unfold ofSl at h
  split at h
  ·simp[toCellsT] at hv
  ·simp[toCellsT] at hv
  ·cases h
 | .pair a b,l,x,r,vs,h,hv=>by
  simp only[TT.of] at h
  split at h
  ·rename_i y m h1
   split at h
   ·rename_i z m' h2
    cases h
    obtain⟨vs1,k1,rfl⟩:=of_vals h1 hv
    obtain⟨vs2,k2,rfl⟩:=of_vals h2 k1
    exact⟨vs2,k2,by simp[valsT]⟩
   ·cases h
  ·cases h
theorem keyT_ok {kt:TT} {v:TV} {x:kt.den} (h:keyT kt v=some x):toValT v=some (keyM kt x):=by
 unfold keyT at h
 split at h
 ·split at h
  ·rename_i vs y h1 h2
   split at h
   ·cases h
    obtain⟨vs',k1,rfl⟩:=of_vals h2 h1
    cases k1
    simp only[toValT,h1,Option.map_some,keyM,List.append_nil]
   ·cases h
  ·cases h
 ·cases h
section
variable (P:Program)
def eqV0 (t:TypeId) (a b:Value):Option Bool :=
 match a,b,P.underlying t with
 | .int k a,.int k' b,some (.int _)=>if k'=k then some (a==b) else none
 | .bool a,.bool b,some .bool=>some (a==b)
 | _,_,_=>none
def eqFsE (E:TypeId→Value→Value→Option Bool) (xs ys:Array Value):List Field→Option Bool
 | []=>some true
 | f :: fs => match f.name != "_", pureS P (part f.type xs f.offset), pureS P (part f.type ys f.offset) with
  | true,some a,some b=>match E f.type a b,eqFsE E xs ys fs with
   | some u,some r=>some (u&&r)
   | _,_=>none
  | _,_,_=>none
def eqV:Nat→TypeId→Value→Value→Option Bool
 | 0,t,a,b=>eqV0 P t a b
 | n+1,t,a,b=>match a,b with
  | .agg xs,.agg ys=>match P.underlying t,P.stoodInHeld t with
   | some (.struct fs),false=>eqFsE P (eqV n) xs ys fs.toList
   | _,_=>none
  | a,b=>eqV0 P t a b
end
section
variable {P:Program}
theorem under_fields {t:TypeId} {fs:Array Field} (h:P.underlying t=some (.struct fs)):P.underlying t=some (.struct (P.fieldsOf t)):=by
 have:P.fieldsOf t=fs:=by simp only[Program.fieldsOf,h]
 rw[this]; exact h
theorem eqV0_ok {d:Nat} {t:TypeId} {a b:Value} {r:Bool} (h:eqV0 P t a b=some r):pureS P (Op.equalIn (d+1) t a b)=some r:=by
 unfold eqV0 at h
 split at h
 ·rename_i k a k' b k2 hu
  split at h
  ·rename_i hk
   subst hk
   cases h
   exact pureS_int d t _ _ a b hu
  ·cases h
 ·rename_i a b hu
  cases h
  simp only[Op.equalIn,pureS_bindE,pureS_underlying hu,Option.bind_some]
  rfl
 ·cases h
theorem eqFsE_ok {E:TypeId→Value→Value→Option Bool} {d:Nat} (hE:∀ t a b r,E t a b=some r→pureS P (Op.equalIn d t a b)=some r) {xs ys:Array Value}:∀ {fs:List Field} {b:Bool},eqFsE P E xs ys fs=some b→pureS P (Op.eqFields d xs ys fs)=some b
 | [],_,h=>by cases h; exact eqF_nil
 | f::fs,b,h=>by
  unfold eqFsE at h
  split at h
  ·rename_i a b' hn ha hb
   split at h
   ·rename_i u r h1 h2
    cases h
    have hn' : f.name ≠ "_" := by simpa using hn
    simp only[Op.eqFields,hn',ne_eq,not_false_eq_true,if_true,pureS_bindE,ha,hb,Option.bind_some,hE _ _ _ _ h1]
    cases u
    ·rfl
    ·simp only[Bool.not_true,Bool.false_eq_true,if_false,Bool.true_and]; exact eqFsE_ok hE h2
   ·cases h
  ·cases h
theorem eqV_ok:∀ {n d:Nat} {t:TypeId} {a b:Value} {r:Bool},n<d→eqV P n t a b=some r→pureS P (Op.equalIn d t a b)=some r
 | 0,0,_,_,_,_,hd,_=>by omega
 | 0,d+1,_,_,_,_,_,h=>eqV0_ok h
 | n+1,0,_,_,_,_,hd,_=>by omega
 | n+1,d+1,t,a,b,r,hd,h=>by
  unfold eqV at h
  split at h
  ·rename_i xs ys
   split at h
   ·rename_i fs h1 h2
    rw[pureS_struct d t xs ys (under_fields h1) h2]
    simp only[Program.fieldsOf,h1]
    exact eqFsE_ok (fun t a b r h=>eqV_ok (by omega) h) h
   ·cases h
  ·exact eqV0_ok h
end
variable {P:Program} {ty:Tys} {tt:TypeId→Option TT} {ι ι' w:Ids} {S S':Store} {te te1:List TV} {env:List DV} {tS tS1:List TB} {iso:IsoF} {call:CallF} {yf:YldF} {o:Oper} {nid nT:Nat} {B:List Nat} {ops:Array Oper}
theorem rel_map_new (h:RelT ι te tS env S) (hT:NewT tS nT) (hn:NewD S nid) (kt:TT):RelT (upd ι nT nid) te (setT tS nT (.map kt [])) env (setS S nid (.map [])):=by
 have K:=keeps_new h hT hn (.map [])
 refine⟨rtl_mono K _ _ h.env,fun k l hk => ?_,fun k e s hk t ht => ?_,fun k k' hk => ?_,fun i j k' hi hj => ?_,fun k kt l hk t ht => ?_⟩
 ·rw[setT_get hT] at hk
  split at hk
  ·cases hk
  ·rename_i e
   obtain⟨k',ds',h1,h2,h3⟩:=h.cells k l hk
   exact⟨k',ds',by simp only[upd,e,if_false]; exact h1,by rw[setS_get hn,if_neg (h.ne_new hn h1)]; exact h2,rtl_mono K _ _ h3⟩
 ·rw[setT_get hT] at hk
  split at hk
  ·cases hk
  ·rename_i e'
   simp only[upd,e',if_false] at ht
   obtain⟨n,h1⟩:=h.own k e s hk t ht
   exact⟨n,by rw[setS_get hn,if_neg (h.ne_new hn ht)]; exact h1⟩
 ·rw[setT_get hT]
  split
  ·exact⟨_,rfl,fun e=>by cases e⟩
  ·rename_i e
   simp only[upd,e,if_false] at hk
   exact h.dom k k' hk
 ·unfold upd at hi hj
  split at hi<;>split at hj
  ·omega
  ·cases hi; exact(h.ne_new hn hj rfl).elim
  ·cases hj; exact(h.ne_new hn hi rfl).elim
  ·exact h.inj i j k' hi hj
 ·rw[setT_get hT] at hk
  split at hk
  ·rename_i e'
   cases hk
   simp only[upd,e',if_true,Option.some.injEq] at ht
   subst ht
   rw[setS_get hn,if_pos rfl]; rfl
  ·rename_i e'
   simp only[upd,e',if_false] at ht
   rw[setS_get hn,if_neg (h.ne_new hn ht)]; exact h.mp k kt l hk t ht
theorem rel_map_set (h:RelT ι te tS env S) {id id':Nat} {kt:TT} {l l':List kt.den} (hi:ι id=some id') (hl:tS[id]? = some (.map kt l)):RelT ι te (tS.set id (.map kt l')) env (S.set id' (.map (entM kt l'))):=by
 have hS:=h.mp id kt l hl id' hi
 have hlt:=(List.getElem?_eq_some_iff.1 hl).1
 have hlt':=(List.getElem?_eq_some_iff.1 hS).1
 have K:Keeps ι S ι (S.set id' (.map (entM kt l'))) fun _=>False:=fun a b _ hab=>⟨hab,fun e s n hs=>by
  rw[List.getElem?_set]
  split
  ·rename_i e1; subst e1; rw[hS] at hs; cases hs
  ·exact hs⟩
 have hg:∀ j,(tS.set id (.map kt l'))[j]? = if j=id then some (.map kt l') else tS[j]? := fun j=>by
  rw[List.getElem?_set]
  by_cases e:j=id
  ·subst e; simp[hlt]
  ·rw[if_neg (Ne.symm e),if_neg e]
 have hg':∀ j,j≠id'→(S.set id' (.map (entM kt l')))[j]? = S[j]? := fun j hj=>by rw[List.getElem?_set,if_neg (Ne.symm hj)]
 refine⟨rtl_mono K _ _ h.env,fun j m hj => ?_,fun j e s hj t ht => ?_,fun j j' hj => ?_,h.inj,fun j kt0 m hj t ht => ?_⟩
 ·rw[hg] at hj
  split at hj
  ·cases hj
  ·rename_i e
   obtain⟨j',ds0,h1,h2,h3⟩:=h.cells j m hj
   exact⟨j',ds0,h1,by rw[hg' j' fun e1=>e (h.inj _ _ _ (e1▸h1) hi)]; exact h2,rtl_mono K _ _ h3⟩
 ·rw[hg] at hj
  split at hj
  ·cases hj
  ·obtain⟨n,h1⟩:=h.own j e s hj t ht
   exact⟨n,(K j t (fun e=>e) ht).2 _ _ _ h1⟩
 ·rw[hg]
  split
  ·exact⟨_,rfl,by simp⟩
  ·exact h.dom j j' hj
 ·rw[hg] at hj
  split at hj
  ·rename_i e
   subst e
   cases hj
   rw[hi] at ht
   cases ht
   rw[List.getElem?_set,if_pos rfl,if_pos hlt']
  ·rename_i e
   rw[hg' t fun e1=>e (h.inj _ _ _ (e1▸ht) hi)]
   exact h.mp j kt0 m hj t ht
theorem bok_map {id:Nat} {kt:TT} {l l':List kt.den} (hB:BOK B tS) (hl:tS[id]? = some (.map kt l)):BOK B (tS.set id (.map kt l')):=fun k hk=>by
 obtain⟨c,hc⟩:=hB k hk
 refine⟨c,?_⟩
 rw[List.getElem?_set,if_neg]
 ·exact hc
 ·rintro rfl; rw[hl] at hc; cases hc
theorem does_map {v:TV} {tS1:List TB} {c:Prop} (h:mapT P tt te tS o nT=some (v,tS1,c)) (hc:c):Does P ty iso call yf B o nT te tS false fun v' te' tS' _=>v'=v∧te'=te∧tS'=tS1:=by
 intro ι w env S nid hR hB hw hT hn hS
 unfold mapT at h
 split at h
 ·rename_i t ho
  split at h
  ·rename_i kt ht
   cases h
   refine⟨.map nid,setS S nid (.map []),upd ι nT nid,upd w nid nT,.mp nT,te,_,⟨none,true⟩,⟨none,true⟩,fun _ => ?_,fun hd=>(by cases hd),⟨fun e=>e,fun l hl=>(by cases hl)⟩,fun l m hl=>(by cases hl),rel_map_new hR hT hn kt,?_,wok_new hR hn hT hw,fun hd=>(by cases hd),fr_upd hn (bok_new hB hT),bok_setT hB hT,nn_setS hn,rfl,rfl,rfl⟩
   ·simp only[stepOp,ho]
   ·simp[RT,upd]
  ·cases h
 ·rename_i t m k ho
  split at h
  ·rename_i id u h1 h2
   split at h
   ·rename_i kt l h3
    split at h
    ·rename_i x h4
     cases h
     obtain⟨d,k1,k2⟩:=evT_ok hR.env h1
     cases d<;>simp only[RT] at k2
     rename_i id'
     have k3:=hR.mp id kt l h3 id' k2
     have k4:valOf (evD env) k=some (keyM kt x):=valOf_ok hR.env (by rw[h2]; exact keyT_ok h4)
     refine⟨.val (.bool (memD kt x l)),S,ι,w,.val (.bool (memD kt x l)),te,tS,⟨none,true⟩,⟨none,true⟩,fun _ => ?_,fun hd=>(by cases hd),⟨fun e=>e,fun l hl=>(by cases hl)⟩,fun l m hl=>(by cases hl),hR,by simp only[RT],hw,fun hd=>(by cases hd),Fr.refl _ _ _,hB,nn_refl _ _,rfl,rfl,rfl⟩
     simp only[stepOp,ho,k1,k4,k3,hc.look x l,Option.bind_some,ofRes,ofVal]
     rfl
    ·cases h
   ·cases h
  ·cases h
 ·rename_i t m k y ho
  split at h
  ·rename_i id u h1 h2 h5
   split at h
   ·rename_i kt l h3
    split at h
    ·rename_i x h4
     cases h
     obtain⟨d,k1,k2⟩:=evT_ok hR.env h1
     cases d<;>simp only[RT] at k2
     rename_i id'
     have k3:=hR.mp id kt l h3 id' k2
     have k4:valOf (evD env) k=some (keyM kt x):=valOf_ok hR.env (by rw[h2]; exact keyT_ok h4)
     have k5:valOf (evD env) y=some (.bool true):=valOf_ok hR.env (by rw[h5]; rfl)
     obtain⟨r,k6,k7⟩:=hc.find x l
     refine⟨dundef,S.set id' (.map (entM kt (insD kt x l))),ι,w,.unk,te,_,⟨none,true⟩,⟨none,true⟩,fun _ => ?_,fun hd=>(by cases hd),⟨fun e=>e,fun l hl=>(by cases hl)⟩,fun l m hl=>(by cases hl),rel_map_set hR k2 h3,by simp only[RT],hw,fun hd=>(by cases hd),fr_set k2,bok_map hB h3,nn_set k3 (fun e=>by cases e),rfl,rfl,rfl⟩
     simp only[stepOp,ho,k1,k4,k5,k3,k6,k7,Option.map_some]
    ·cases h
   ·cases h
  ·cases h
 ·cases h
end Go.Tv
end
