import Derived.Test.YtedcgbkilmlbhaaPk23
section
namespace Go.Di
open Go Go.Conc Go.Co
open Go.ConcN (sumTo sumTo_upd sumTo_congr le_sumTo upd upd_same upd_ne)
variable {P:Program} {Final:Machine→Trace→Prop} {ty:Tys} {x:Cx} {iso:IsoF} {call:CallF} {yf:YldF}
def OrdOk (ops:Array Oper):Prop:=∀ i o,ops[i]? = some o→∀ e∈o.after,Region.binds .any e=true→e.on<i
theorem before_lt {ops:Array Oper} (hord:OrdOk ops) {i j:Nat} (hne:i≠j) (h:((Region.before ops).getD j 0).testBit i=true):i<j:=by
  have hcl:Closed ops fun k=>decide (k≤j):=by
    intro k o ho hk e he hb
    have:=hord k o ho e he hb
    simp only[decide_eq_true_eq] at hk ⊢
    omega
  have:=before_spec ops hcl j i h (by simp)
  simp only[decide_eq_true_eq] at this
  omega
theorem ord_iff {ops:Array Oper} (hord:OrdOk ops) {L:Nat→Bool} (hL:Closed ops L) {i j:Nat} {o:Oper} (ho:ops[i]? = some o) (hi:L i=false) (hpre:∀ e∈o.after,Region.binds .any e=true→L e.on=true) (hne:i≠j)
    (h:((Region.before ops).getD j 0).testBit i=true∨((Region.before ops).getD i 0).testBit j=true):L j=true↔j<i:=by
  rcases h with h | h
  · have h1:=before_lt hord hne h
    refine⟨fun hj => ?_,fun hj=>by omega⟩
    have:=before_spec ops hL j i h hj
    rw[hi] at this
    cases this
  · have h1:=before_lt hord (Ne.symm hne) h
    refine⟨fun _=>h1,fun _ => ?_⟩
    have hcl:Closed ops (upd L i true):=by
      intro k o' ho' hk e he hb
      by_cases hki:k=i
      · subst hki
        rw[ho] at ho'
        cases ho'
        by_cases hei:e.on=k
        · rw[hei,upd_same]
        · rw[upd_ne _ _ hei]; exact hpre e he hb
      · rw[upd_ne _ _ hki] at hk
        by_cases hei:e.on=i
        · rw[hei,upd_same]
        · rw[upd_ne _ _ hei]; exact hL k o' ho' hk e he hb
    have:=before_spec ops hcl i j h (upd_same _ _ _)
    rwa [upd_ne _ _ (Ne.symm hne)] at this
def dstIs (ops:Array Oper) (j:Nat) (t:Tmp):Bool:=match ops[j]? with
  | some o=>o.dst==some t
  | none=>false
def lastV (ops:Array Oper) (V:Nat→DV) (L:Nat→Bool) (t:Tmp):Nat→Option DV
  | 0=>none
  | n+1=>if L n&&dstIs ops n t then some (V n) else lastV ops V L t n
theorem lastV_congr {ops:Array Oper} {V:Nat→DV} {L:Nat→Bool} {t:Tmp} {i:Nat}:∀ {n:Nat},i≤n→(∀ j,j<n→dstIs ops j t=true→(L j=true↔j<i))→lastV ops V L t n=lastV ops V (fun _=>true) t i
  | 0,h,_=>by
    have:i=0:=by omega
    subst this; rfl
  | n+1,h,hj=>by
    by_cases hin:i=n+1
    · subst hin
      unfold lastV
      by_cases hd:dstIs ops n t=true
      · have:=(hj n (by omega) hd).2 (by omega)
        simp only[this,hd,Bool.and_self,if_true]
      · simp only[Bool.and_eq_true,hd,and_false,if_false,Bool.false_eq_true]
        exact lastV_congr (Nat.le_refl _) fun j h1 h2=>⟨fun _=>h1,fun _=>(hj j (Nat.lt_succ_of_lt h1) h2).2 (Nat.lt_succ_of_lt h1)⟩
    · have hle:i≤n:=by omega
      rw[← lastV_congr hle fun j h1 h2=>hj j (by omega) h2]
      conv=>lhs; unfold lastV
      by_cases hd:dstIs ops n t=true
      · have:L n=false:=by
          cases hLn:L n with
          | false=>rfl
          | true=>have:=(hj n (by omega) hd).1 hLn; omega
        rw[this]
        simp
      · simp[hd]
theorem lastV_other {ops:Array Oper} {V:Nat→DV} {L:Nat→Bool} {t:Tmp} {i:Nat} (hd:dstIs ops i t=false):∀ n,lastV ops V (upd L i true) t n=lastV ops V L t n
  | 0=>rfl
  | n+1=>by
    unfold lastV
    rw[lastV_other hd n]
    by_cases h:n=i
    · subst h; simp[hd]
    · rw[upd_ne _ _ h]
def EnvIs (ops:Array Oper) (V:Nat→DV) (L:Nat→Bool) (n:Nat) (env0 env:List DV):Prop:=∀ t,env[t]? = (env0[t]?).map fun d=>(lastV ops V L t n).getD d
theorem putD_get (env:List DV) (dst:Option Tmp) (v:DV) (t:Tmp):(putD env dst v)[t]? = if dst=some t then (env[t]?).map fun _=>v else env[t]? := by
  cases dst with
  | none=>simp[putD]
  | some d =>
    simp only[putD,List.getElem?_set,Option.some.injEq]
    by_cases h:d=t
    · subst h
      by_cases hl:d<env.length
      · simp[hl]
      · simp[hl]
    · simp[h]
def SeqIs (ops:Array Oper) (V:Nat→DV) (E:Nat→List DV):Prop:=∀ j o,ops[j]? = some o→E (j+1)=putD (E j) o.dst (V j)
theorem seq_env {ops:Array Oper} {V:Nat→DV} {E:Nat→List DV} (h:SeqIs ops V E):∀ i,i≤ops.size→EnvIs ops V (fun _=>true) i (E 0) (E i)
  | 0,_=>fun t=>by simp[lastV]
  | i+1,hi=>fun t=>by
    have ho:ops[i]? = some ops[i]:=Array.getElem?_eq_getElem (by omega)
    have ih:=seq_env h i (by omega) t
    rw[h i _ ho,putD_get]
    unfold lastV
    have hd:dstIs ops i t=(ops[i].dst==some t):=by unfold dstIs; rw[ho]
    by_cases hdt:ops[i].dst=some t
    · simp only[hdt,if_true,hd,beq_self_eq_true,Bool.and_self,Option.getD_some,ih,Option.map_map]
      rfl
    · have:(ops[i].dst==some t)=false:=by simpa using hdt
      simp only[hdt,if_false,hd,this,Bool.and_false,Bool.false_eq_true]
      exact ih
theorem envIs_put {ops:Array Oper} {V:Nat→DV} {E:Nat→List DV} {L:Nat→Bool} {env:List DV} {i:Nat} {o:Oper} (ho:ops[i]? = some o) (hE:EnvIs ops V L ops.size (E 0) env)
    (hlast:∀ t,o.dst=some t→∀ j,j<ops.size→dstIs ops j t=true→(upd L i true j=true↔j<i+1)):EnvIs ops V (upd L i true) ops.size (E 0) (putD env o.dst (V i)):=by
  intro t
  have hi:i<ops.size:=(Array.getElem?_eq_some_iff.1 ho).1
  rw[putD_get]
  have hd:dstIs ops i t=(o.dst==some t):=by unfold dstIs; rw[ho]
  by_cases hdt:o.dst=some t
  · have e:lastV ops V (fun _=>true) t (i+1)=some (V i):=by unfold lastV; simp[hd,hdt]
    rw[if_pos hdt,lastV_congr (i:=i+1) (by omega) (hlast t hdt),hE t,e]
    simp[Function.comp_def]
  · have h2:dstIs ops i t=false:=by rw[hd]; simpa using hdt
    rw[if_neg hdt,lastV_other h2]
    exact hE t
theorem names_agree {ops:Array Oper} (hord:OrdOk ops) (hdr:drawOk ops (Region.before ops)=true) {V:Nat→DV} {E:Nat→List DV} (hS:SeqIs ops V E) {L:Nat→Bool} (hL:Closed ops L) {env:List DV} (hE:EnvIs ops V L ops.size (E 0) env) {i:Nat} {o:Oper} (ho:ops[i]? = some o) (hi:L i=false)
    (hpre:∀ e∈o.after,Region.binds .any e=true→L e.on=true):(∀ t∈namesOf ops o,env[t]? = (E i)[t]?)∧∀ t,o.dst=some t→∀ j,j<ops.size→dstIs ops j t=true→(upd L i true j=true↔j<i+1):=by
  have hio:i<ops.size:=(Array.getElem?_eq_some_iff.1 ho).1
  have hx:∀ t∈namesOf ops o,∀ j,j<ops.size→j≠i→dstIs ops j t=true→(L j=true↔j<i):=by
    intro t ht j hj hne hd
    have hoj:ops[j]? = some ops[j]:=Array.getElem?_eq_getElem hj
    have hdj:ops[j].dst=some t:=by unfold dstIs at hd; rw[hoj] at hd; simpa using hd
    refine ord_iff hord hL ho hi hpre (Ne.symm hne) ?_
    unfold drawOk at hdr
    simp only[Bool.and_eq_true,List.all_eq_true] at hdr
    have h1:=hdr.2 (o,i) (by rw[List.mem_zipIdx_iff_getElem?]; simpa using ho) (ops[j],j) (by rw[List.mem_zipIdx_iff_getElem?]; simp)
    simp only[hdj] at h1
    have hc:(namesOf ops o).contains t=true:=by simpa using ht
    simp only[hc,Bool.not_true,Bool.or_false,Bool.or_eq_true,beq_iff_eq] at h1
    rcases h1 with (h1 | h1) | h1
    · exact absurd h1.symm hne
    · exact .inl h1
    · exact .inr h1
  constructor
  · intro t ht
    rw[hE t,seq_env hS i (by omega) t]
    congr 1
    funext d
    rw[lastV_congr (i:=i) (by omega) fun j hj hd => ?_]
    by_cases hji:j=i
    · subst hji; simp[hi]
    · exact hx t ht j hj hji hd
  · intro t ht j hj hd
    by_cases hji:j=i
    · subst hji; simp[upd_same]
    · rw[upd_ne _ _ hji,hx t (by simp[namesOf,ht]) j hj hji hd]
      omega
theorem evD_agree {ops:Array Oper} {o:Oper} {env env':List DV} (h:∀ t∈namesOf ops o,env[t]? = env'[t]?):∀ a∈o.op.operands,evD env a=evD env' a:=by
  intro a ha
  cases a with
  | tmp t =>
    have:t∈namesOf ops o:=by
      unfold namesOf
      simp only[List.mem_append]
      left; right
      rw[List.mem_filterMap]
      exact⟨.tmp t,by simpa using ha,rfl⟩
    simp only[evD,List.getD_eq_getElem?_getD,h t this]
  | _=>rfl
theorem wanted_agree {ops:Array Oper} {o:Oper} {env env':List DV} (h:∀ t∈namesOf ops o,env[t]? = env'[t]?):wantedD ops env o=wantedD ops env' o:=by
  unfold wantedD
  cases hg:o.guard with
  | none=>rfl
  | some g =>
    obtain⟨j,want⟩:=g
    simp only
    cases hb:(ops[j]?).bind (·.dst) with
    | none=>rfl
    | some t =>
      have:t∈namesOf ops o:=by
        unfold namesOf
        rw[hg]
        simp[hb]
      simp only[h t this]
theorem ordOk_of {ops:Array Oper} (h:drawOk ops (Region.before ops)=true):OrdOk ops:=by
  intro i o ho e he hb
  unfold drawOk at h
  simp only[Bool.and_eq_true,List.all_eq_true,Array.all_eq_true'] at h
  have h1:=h.1 (o,i) (by rw[List.mem_zipIdx_iff_getElem?]; simpa using ho) e he
  simpa [hb] using h1
theorem runQ_seq {ops:Array Oper} {S:Store}:∀ {r:List Oper} {env env':List DV},runQ P ty iso call yf ops S r env=some env'→∃ (E:Nat→List DV) (V:Nat→DV),E 0=env∧E r.length=env' ∧
    ∀ j o,r[j]? = some o→E (j+1)=putD (E j) o.dst (V j)∧(wantedD ops (E j) o=true→quietOp P ty iso call yf (evD (E j)) o S=some (V j))∧(wantedD ops (E j) o=false→V j=dundef)
  | [],env,env',h=>by
    simp only[runQ,Option.some.injEq] at h
    exact⟨fun _=>env,fun _=>dundef,rfl,h,by simp⟩
  | o::r,env,env',h=>by
    unfold runQ at h
    have key:∀ v,runQ P ty iso call yf ops S r (putD env o.dst v)=some env'→(wantedD ops env o=true→quietOp P ty iso call yf (evD env) o S=some v)→(wantedD ops env o=false→v=dundef)→∃ (E:Nat→List DV) (V:Nat→DV),E 0=env∧E (o::r).length=env' ∧
        ∀ j o',(o::r)[j]? = some o'→E (j+1)=putD (E j) o'.dst (V j)∧(wantedD ops (E j) o'=true→quietOp P ty iso call yf (evD (E j)) o' S=some (V j))∧(wantedD ops (E j) o'=false→V j=dundef):=fun v h1 h2 h3=>by
      obtain⟨E,V,e1,e2,e3⟩:=runQ_seq h1
      refine⟨fun n=>match n with | 0=>env | n+1=>E n,fun n=>match n with | 0=>v | n+1=>V n,rfl,by simpa using e2,fun j o' ho' => ?_⟩
      cases j with
      | zero =>
        simp only[List.getElem?_cons_zero,Option.some.injEq] at ho'
        subst ho'
        exact⟨e1,h2,h3⟩
      | succ j=>exact e3 j o' (by simpa using ho')
    split at h
    · rename_i hw
      split at h
      · rename_i v h1
        exact key v h (fun _=>h1) fun hf=>by rw[hw] at hf; cases hf
      · cases h
    · rename_i hw
      exact key dundef h (fun ht=>absurd ht hw) fun _=>rfl
theorem quiet_step {ρ:Operand→Option DV} {o:Oper} {S:Store} {v:DV} (h:quietOp P ty iso call yf ρ o S=some v):stepOp P ty iso call yf ρ o S S.length=some (v,S):=by
  obtain⟨dst,op,type,pos,after,guard⟩:=o
  have gen:∀ {q:Option (DV×Store)},q.map (·.1)=some v→(∀ d S',q=some (d,S')→S'=S)→q=some (v,S):=by
    intro q hq hs
    simp only[Option.map_eq_some_iff] at hq
    obtain⟨⟨d,S'⟩,h1,rfl⟩:=hq
    rw[h1,hs d S' h1]
  have mp:∀ {β:Type} {q:Option β} {f:β→DV} {d:DV} {S':Store},q.map (fun c=>(f c,S))=some (d,S')→S'=S:=by
    intro β q f d S' hq
    simp only[Option.map_eq_some_iff,Prod.mk.injEq] at hq
    obtain⟨_,_,_,h⟩:=hq
    exact h.symm
  cases op<;>simp only[quietOp] at h
  case call c =>
    obtain⟨callee,args,ats⟩:=c
    cases callee with
    | builtin b =>
      cases b<;>simp only at h<;>first | cases h | skip
      all_goals
        refine gen h fun d S' hq => ?_
        simp only[stepOp] at hq
        repeat' split at hq
        all_goals first | contradiction | exact mp (f:=id) hq | exact mp hq | (cases hq; rfl) | (cases hq; done) | skip
    | value f =>
      simp only at h
      split at h
      · rename_i g fs cs xs hf hxs
        split at h
        · rename_i hp
          simp only[stepOp,hf,hxs,callD,hp,if_true,h]
        · cases h
      · cases h
    | invoke r m=>simp[stepOp] at h
  all_goals first
    | cases h
    | (refine gen h fun d S' hq => ?_
       simp only[stepOp] at hq
       repeat' split at hq
       all_goals first | contradiction | exact mp (f:=id) hq | exact mp hq | (cases hq; rfl) | (cases hq; done) | skip)
theorem quiet_congr {ρ ρ':Operand→Option DV} {o:Oper} {S:Store} (h:∀ a∈o.op.operands,ρ a=ρ' a):quietOp P ty iso call yf ρ o S=quietOp P ty iso call yf ρ' o S:=by
  have hs:=stepOp_congr (P:=P) (ty:=ty) (iso:=iso) (call:=call) (yf:=yf) (S:=S) (nid:=S.length) h
  unfold quietOp
  split<;>try rfl
  · rename_i f args ats hop
    rw[hop] at h
    have h1:ρ f=ρ' f:=h f (by simp[Op.operands,Call.operands])
    have h2:=evs_congr (ρ:=ρ) (ρ':=ρ') (l:=args.toList) fun a ha=>h a (by simp[Op.operands,Call.operands] at ha ⊢; exact .inr ha)
    rw[h1,h2]
  · rw[hs]
theorem regionQ_ok (hP:Plain P) (hty:TyOk P ty) (hc:CallOK P Final call) (hi:IsoOK P Final iso) (hyl:YldOK P Final yf) {ops:Array Oper} {b:Frame} {k:List Item} {cs:List Frame} (hk:b.kind ≠ .early) (hdr:drawOk ops (Region.before ops)=true)
    {env env':List DV} {a:Act} (h:runQ P ty iso call yf ops x.S ops.toList env=some env') (hR:Rel x) (he:RVs x env a.tmps)
    (hn:∀ y a',y.S=x.S→Rel y→Mono x y→RVs y env' a'.tmps→a'.defers=a.defers→KMu P Final () (G (b.atR a' k) cs) y.w) (t:Nat):KMu P Final () (G (b.atR a (.inRegion ops (Region.linearise .any ops t)::k)) cs) x.w:=by
  have hord:=ordOk_of hdr
  obtain⟨E,V,e1,e2,e3⟩:=runQ_seq h
  have hops:∀ (j:Nat) (o:Oper),ops[j]? = some o→ops.toList[j]? = some o:=fun j o ho=>by simpa using ho
  have hS:SeqIs ops V E:=fun j o ho=>(e3 j o (hops j o ho)).1
  refine linearise_ind hord (σ:=Act×Cx) (fun todo s=>s.2.S=x.S→Rel s.2→Mono x s.2→s.1.defers=a.defers→KMu P Final () (G (b.atR s.1 (.inRegion ops todo::k)) cs) s.2.w)
    (fun L s=>∃ env1,RVs s.2 env1 s.1.tmps∧EnvIs ops V L ops.size (E 0) env1) ?_ ?_ t (a,x) ⟨env,he,fun t => ?_⟩ rfl hR (Mono.refl x) rfl
  · rintro L ⟨a1,y⟩ i o ⟨env1,hr1,hE1⟩ hcl ho hLi hpre rest hrest hSy hRy hMy hdf
    simp only at hr1 hSy hRy hMy hdf ⊢
    obtain⟨q1,q2⟩:=names_agree hord hdr hS hcl hE1 ho hLi hpre
    have hw:=wanted_agree q1
    have hwe:=wanted_ok hr1 ops o
    have hE2:=envIs_put (V:=V) ho hE1 q2
    by_cases hwt:wantedD ops (E i) o=true
    · have hq:=(e3 i o (hops i o ho)).2.1 hwt
      rw[← quiet_congr (evD_agree q1),← hSy] at hq
      refine mu_op hP hty hc hi hyl hk ho (by rw[hwe,hw]; exact hwt) hRy (.inl rfl) hr1 (quiet_step hq) fun z u zS zR zM zV => ?_
      have hput:=put_ok (hr1.mono zM) (dst:=o.dst) zV
      exact hrest (a1.put o.dst u,z) ⟨_,hput.1,hE2⟩ (zS.trans hSy) zR (hMy.trans zM) (hput.2.trans hdf)
    · have hwf:wantedD ops (E i) o=false:=by simpa using hwt
      have hv:=(e3 i o (hops i o ho)).2.2 hwf
      have hput:=put_ok hr1 (dst:=o.dst) (d:=V i) (v:=undef) (by rw[hv]; exact .val rfl)
      exact mu_ctl hP (fun w=>⟨_,rG_unwanted ho (by rw[hwe,hw]; exact hwf)⟩) (hrest (a1.put o.dst undef,y) ⟨_,hput.1,hE2⟩ hSy hRy hMy (hput.2.trans hdf))
  · rintro L ⟨a1,y⟩ ⟨env1,hr1,hE1⟩ hall hSy hRy hMy hdf
    have:env1=env':=by
      refine List.ext_getElem? fun t => ?_
      have hlen:E ops.size=env':=by simpa using e2
      rw[hE1 t,← hlen,seq_env hS ops.size (Nat.le_refl _) t]
      congr 1
      funext d
      rw[lastV_congr (i:=ops.size) (Nat.le_refl _) fun j hj _=>by simp[hall j hj,hj]]
    subst this
    exact mu_ctl hP (fun w=>⟨_,rG_end_region⟩) (hn y a1 hSy hRy hMy hr1 hdf)
  · rw[e1]
    have:∀ n,lastV ops V (fun _=>false) t n=none:=by
      intro n
      induction n with
      | zero=>rfl
      | succ n ih=>unfold lastV; simp[ih]
    rw[this]
    simp
end Go.Di
end
section
namespace Go.Di
open Go Go.Conc Go.Co
open Go.ConcN (upd upd_same upd_ne)
variable {P:Program} {Final:Machine→Trace→Prop} {ty:Tys} {x:Cx} {iso:IsoF} {call:CallF} {yf:YldF}
def appW (w:Option (Nat×DB)) (S:Store):Store:=match w with
 | none=>S
 | some (i,b)=>S.set i b
theorem setS_lt {S:Store} {i:Nat} (h:i<S.length) (b:DB):setS S i b=S.set i b:=by unfold setS; rw[if_pos h]
theorem lt_of_some {S:Store} {i:Nat} {b:DB} (h:S[i]? = some b):i<S.length:=(List.getElem?_eq_some_iff.1 h).1
def PlainOp:Op→Prop
 | .alloc _ | .box .. | .makeMap .. | .load .. | .store .. | .lookup .. | .mapUpdate .. => False
 | .call { callee := .builtin .append,.. }=>False
 | .call { callee := .builtin _,.. }=>True
 | .call _=>False
 | _=>True
theorem map_fst {β:Type} (q:Option β) (f:β→DV) (S T:Store):q.map (fun c=>(f c,S))=((q.map (fun c=>(f c,T))).map (·.1)).map (·,S):=by cases q<;>rfl
theorem plain_form {ρ:Operand→Option DV} {o:Oper} (hop:PlainOp o.op) (S:Store) (nid:Nat):stepOp P ty iso call yf ρ o S nid=((stepOp P ty iso call yf ρ o [] 0).map (·.1)).map (·,S):=by
 obtain⟨dst,op,type,pos,after,guard⟩:=o
 cases op<;>simp only[PlainOp] at hop
 case call c =>
  obtain⟨callee,args,ats⟩:=c
  cases callee with
  | builtin b =>
   simp only[stepOp]
   generalize args.toList=l
   generalize ats.toList=m
   split
   ·split<;>first | rfl | exact map_fst (f:=id) _ S []
   ·exact hop.elim
   ·split<;>first | rfl | exact map_fst (f:=id) _ S []
   ·split<;>first | rfl | exact map_fst (f:=id) _ S []
   ·rfl
  | value f=>exact hop.elim
  | invoke r m=>exact hop.elim
 case makeFunc fn fs cs=>cases fn<;>simp only[stepOp]<;>(repeat' split)<;>rfl
 all_goals simp only[stepOp]
 all_goals (repeat' split)
 all_goals first
  | rfl
  | exact map_fst (f:=id) _ S []
  | exact map_fst _ _ S []
theorem plain_eq {ρ:Operand→Option DV} {o:Oper} (hop:PlainOp o.op) {S S':Store} {nid:Nat} {v:DV} (h:stepOp P ty iso call yf ρ o S nid=some (v,S')):S'=S∧∀ T nid',stepOp P ty iso call yf ρ o T nid'=some (v,T):=by
 rw[plain_form hop] at h
 simp only[Option.map_eq_some_iff,Prod.mk.injEq] at h
 obtain⟨d,h1,h2,h3⟩:=h
 refine⟨h3.symm,fun T nid' => ?_⟩
 rw[plain_form hop]
 simp only[Option.map_eq_some_iff,Prod.mk.injEq]
 exact⟨d,h1,h2,trivial⟩
structure Eff (P:Program) (ty:Tys) (iso:IsoF) (call:CallF) (yf:YldF) (ρ:Operand→Option DV) (o:Oper) (S:Store) (nid:Nat) (v:DV) (S':Store) (f:Foot) (F:List Nat) (w:Option (Nat×DB)):Prop where
 res:S'=appW w S
 foot:∀ i b,w=some (i,b)→i∈F∧f.wr=true∧i<S.length
 loc:∀ T,(F≠[]→T.length=S.length)→(∀ x∈F,T[x]? = S[x]?)→stepDr P ty iso call yf ρ o T nid=some (v,appW w T,f)
theorem loadD_ptr {S T:Store} {t:TypeId} {id off:Nat} (h:T[id]? = S[id]?):loadD ty T t (.ptr id off)=loadD ty S t (.ptr id off):=by
 unfold loadD
 cases ty t with
 | none=>rfl
 | some d=>simp only[h]
theorem loadD_eptr {S T:Store} {t:TypeId} {rows:List DV} {i off:Nat}:loadD ty T t (.eptr rows i off)=loadD ty S t (.eptr rows i off):=by unfold loadD; cases ty t<;>rfl
theorem appendD_eff {S S':Store} {nid:Nat} {t:TypeId} {a b v:DV} (h:appendD ty S nid t a b=some (v,S')) (hn:nid<S.length):∃ w,S'=appW w S∧(∀ i c,w=some (i,c)→(i=nid∨∃ r tk f,a = .sl r (some tk) f∧i=tk)∧i<S.length) ∧
  ∀ T:Store,T.length=S.length→(∀ r tk f,a = .sl r (some tk) f→T[tk]? = S[tk]?)→appendD ty T nid t a b=some (v,appW w T):=by
 unfold appendD at h ⊢
 split at h
 ·rename_i e s by_ agg sz z rows tok full news tok2 full2 htt
  split at h
  ·rename_i hemp
   cases h
   exact⟨none,rfl,by simp,fun T _ _=>by simp only[hemp,if_true]; rfl⟩
  ·rename_i hemp
   split at h
   ·rename_i hte
    split at h
    ·rename_i hc
     cases tok with
     | none =>
      simp only at h
      split at h
      ·rename_i hf
       cases h
       refine⟨some (nid,.tail e s ((rows.length+news.length)*s)),setS_lt hn _,fun i c hw => ?_,fun T hT _ => ?_⟩
       ·cases hw; exact⟨.inl rfl,hn⟩
       ·simp only[hemp,hc,hf,if_true,Bool.false_eq_true,if_false]
        rw[setS_lt (by omega)]
        rfl
      ·cases h
     | some tk =>
      simp only at h
      split at h
      ·rename_i e' s' n' hS
       split at h
       ·rename_i hc2
        cases h
        refine⟨some (tk,.tail e s ((rows.length+news.length)*s)),rfl,fun i c hw => ?_,fun T hT hl => ?_⟩
        ·cases hw; exact⟨.inr ⟨rows,tk,full,rfl,rfl⟩,lt_of_some hS⟩
        ·have hT2:T[tk]? = some (.tail e' s' n'):=(hl rows tk full rfl).trans hS
         simp only[hemp,hc,hT2,hc2,if_true,Bool.false_eq_true,if_false]
         rfl
       ·cases h
      ·cases h
    ·cases h
   ·cases h
 ·cases h
theorem onlyD_loc {g:FuncId} {args:List DV} {S:Store} {i:Nat} {v:DV} {l:List DV} (h:onlyD call g args S=some (i,v,l)):i<S.length∧∀ T:Store,T[i]? = S[i]? → onlyD call g args T=some (i,v,l):=by
 unfold onlyD at h ⊢
 split at h
 ·rename_i j off rest
  split at h
  ·rename_i l0 hj
   split at h
   ·rename_i hc
    split at h
    ·rename_i v2 l' T2 hcall
     split at h
     ·rename_i hq
      cases h
      refine⟨lt_of_some hj,fun T hT => ?_⟩
      rw[hj] at hT
      simp only[hT,if_pos hc,hcall,if_pos hq]
     ·cases h
    ·cases h
   ·cases h
  ·cases h
 ·cases h
theorem dr_eff {ρ:Operand→Option DV} {o:Oper} {S S':Store} {nid:Nat} {v:DV} {f:Foot} (h:stepDr P ty iso call yf ρ o S nid=some (v,S',f)) {F:List Nat} (hF:f.ids=some F):∃ w,Eff P ty iso call yf ρ o S nid v S' f F w:=by
 obtain⟨dst,op,type,pos,after,guard⟩:=o
 have plain:∀ (hop:PlainOp op),(stepOp P ty iso call yf ρ ⟨dst,op,type,pos,after,guard⟩ S nid).map (fun r=>(r.1,r.2,(⟨some [],false⟩:Foot)))=some (v,S',f)→(∀ T,stepDr P ty iso call yf ρ ⟨dst,op,type,pos,after,guard⟩ T nid=(stepOp P ty iso call yf ρ ⟨dst,op,type,pos,after,guard⟩ T nid).map (fun r=>(r.1,r.2,(⟨some [],false⟩:Foot))))→∃ w,Eff P ty iso call yf ρ ⟨dst,op,type,pos,after,guard⟩ S nid v S' f F w:=by
  intro hop h1 h2
  simp only[Option.map_eq_some_iff,Prod.mk.injEq] at h1
  obtain⟨⟨d,S1⟩,h3,rfl,rfl,rfl⟩:=h1
  obtain⟨h4,h5⟩:=plain_eq hop h3
  exact⟨none,h4,by simp,fun T _ _=>by rw[h2,h5 T nid]; rfl⟩
 cases op
 case alloc e =>
  simp only[stepDr] at h
  split at h
  ·rename_i hS
   have hlt:=lt_of_some hS
   simp only[stepOp] at h
   split at h
   ·rename_i hk
    cases h
    cases hF
    refine⟨some (nid,_),setS_lt hlt _,fun i b hw=>by cases hw; exact⟨by simp,rfl,hlt⟩,fun T hT hx => ?_⟩
    have:=hx nid (by simp)
    have hl:=hT (by simp)
    simp only[stepDr,this,hS,stepOp,hk,Option.map_some]
    rw[setS_lt (by omega)]
    rfl
   ·cases h
  ·cases h
 case box e a =>
  simp only[stepDr] at h
  split at h
  ·rename_i hS
   have hlt:=lt_of_some hS
   simp only[stepOp] at h
   split at h
   ·rename_i hk
    cases h
    cases hF
    refine⟨some (nid,_),setS_lt hlt _,fun i b hw=>by cases hw; exact⟨by simp,rfl,hlt⟩,fun T hT hx => ?_⟩
    have:=hx nid (by simp)
    have hl:=hT (by simp)
    simp only[stepDr,this,hS,stepOp,hk,Option.map_some]
    rw[setS_lt (by omega)]
    rfl
   ·cases h
  ·cases h
 case makeMap t r =>
  cases r with
  | some a =>
   simp only[stepDr] at h
   split at h
   ·simp[stepOp] at h
   ·cases h
  | none =>
   simp only[stepDr] at h
   split at h
   ·rename_i hS
    have hlt:=lt_of_some hS
    simp only[stepOp] at h
    cases h
    cases hF
    refine⟨some (nid,_),setS_lt hlt _,fun i b hw=>by cases hw; exact⟨by simp,rfl,hlt⟩,fun T hT hx => ?_⟩
    have:=hx nid (by simp)
    have hl:=hT (by simp)
    simp only[stepDr,this,hS,stepOp,Option.map_some]
    rw[setS_lt (by omega)]
    rfl
   ·cases h
 case store t a b =>
  simp only[stepDr] at h
  split at h
  ·rename_i id off ha
   simp only[stepOp,ha] at h
   split at h
   ·rename_i a' v' h1 h2
    cases h1
    unfold storeD at h
    split at h
    ·rename_i td id' off' hk hpe
     cases hpe
     split at h
     ·rename_i l hl
      split at h
      ·rename_i hc
       simp only[Option.map_map,Option.map_eq_some_iff,Function.comp_apply,Prod.mk.injEq] at h
       obtain⟨l',h3,rfl,rfl,rfl⟩:=h
       cases hF
       refine⟨some (id,.cells l'),rfl,fun i b hw=>by cases hw; exact⟨by simp,rfl,lt_of_some hl⟩,fun T hT hx => ?_⟩
       have:=hx id (by simp)
       simp only[stepDr,ha,stepOp,h2,storeD,hk,this,hl,hc,if_true,h3,Option.map_some]
       rfl
      ·cases h
     ·cases h
    ·cases h
   ·cases h
  ·cases h
 case load t a =>
  simp only[stepDr] at h
  split at h
  ·rename_i id off ha
   simp only[stepOp,ha] at h
   simp only[Option.map_map,Option.map_eq_some_iff,Function.comp_apply,Prod.mk.injEq] at h
   obtain⟨d,h3,rfl,rfl,rfl⟩:=h
   cases hF
   refine⟨none,rfl,by simp,fun T hT hx => ?_⟩
   have:=hx id (by simp)
   simp only[stepDr,ha,stepOp,loadD_ptr this,h3,Option.map_some]
   rfl
  ·rename_i hno
   simp only[stepOp] at h
   split at h
   ·rename_i a' ha
    simp only[Option.map_map,Option.map_eq_some_iff,Function.comp_apply,Prod.mk.injEq] at h
    obtain⟨d,h3,rfl,rfl,rfl⟩:=h
    cases hF
    refine⟨none,rfl,by simp,fun T hT hx => ?_⟩
    have hld:loadD ty T t a'=some d:=by
     cases a' with
     | ptr id off=>exact absurd ha (hno id off)
     | eptr rows i off=>rw[← h3]; exact loadD_eptr
     | _=>unfold loadD at h3; split at h3<;>simp_all
    cases a' with
    | ptr id off=>exact absurd ha (hno id off)
    | _=>simp only[stepDr,ha,stepOp,hld,Option.map_some]; rfl
   ·cases h
 case lookup t m k ok =>
  simp only[stepDr] at h
  split at h
  ·rename_i id ha
   simp only[stepOp,ha] at h
   split at h
   ·rename_i kv hm hk
    cases hm
    split at h
    ·rename_i es hS
     simp only[Option.map_map,Option.map_eq_some_iff,Function.comp_apply,Prod.mk.injEq] at h
     obtain⟨d,h3,rfl,rfl,rfl⟩:=h
     cases hF
     refine⟨none,rfl,by simp,fun T hT hx => ?_⟩
     have:=hx id (by simp)
     simp only[stepDr,ha,stepOp,hk,this,hS,h3,Option.map_some]
     rfl
    ·cases h
   ·cases h
  ·cases h
 case mapUpdate t m k a =>
  simp only[stepDr] at h
  split at h
  ·rename_i id ha
   simp only[stepOp,ha] at h
   split at h
   ·rename_i id' kv vv hm hk hv
    cases hm
    split at h
    ·rename_i es hS
     split at h
     ·rename_i r hr
      simp only[Option.map_map,Option.map_eq_some_iff,Function.comp_apply,Prod.mk.injEq] at h
      obtain⟨es',h3,rfl,rfl,rfl⟩:=h
      cases hF
      refine⟨some (id,.map es'),rfl,fun i b hw=>by cases hw; exact⟨by simp,rfl,lt_of_some hS⟩,fun T hT hx => ?_⟩
      have:=hx id (by simp)
      simp only[stepDr,ha,stepOp,hk,hv,this,hS,hr,h3,Option.map_some]
      rfl
     ·cases h
    ·cases h
   ·cases h
  ·cases h
 case call c =>
  obtain⟨callee,args,ats⟩:=c
  cases callee with
  | invoke r m=>simp[stepDr,stepOp] at h
  | value g =>
   simp only[stepDr] at h
   split at h
   ·rename_i g' fs cs xs hf hxs
    split at h
    ·rename_i hp
     simp only[Option.map_eq_some_iff,Prod.mk.injEq] at h
     obtain⟨d,h3,rfl,rfl,rfl⟩:=h
     cases hF
     exact⟨none,rfl,by simp,fun T hT hx=>by simp only[stepDr,hf,hxs,hp,if_true,h3,Option.map_some]; rfl⟩
    ·rename_i hp
     split at h
     ·rename_i i v1 l1 ho
      cases h
      cases hF
      obtain⟨hi,hT⟩:=onlyD_loc ho
      exact⟨some (i,.cells l1),rfl,fun _ _ hw=>by cases hw; exact⟨by simp,rfl,hi⟩,fun T _ hx=>by simp only[stepDr,hf,hxs,if_neg hp,hT T (hx i (by simp))]; rfl⟩
     ·simp only[Option.map_eq_some_iff,Prod.mk.injEq] at h
      obtain⟨r,h3,rfl,rfl,rfl⟩:=h
      cases hF
   ·simp only[Option.map_eq_some_iff,Prod.mk.injEq] at h
    obtain⟨r,h3,rfl,rfl,rfl⟩:=h
    cases hF
   ·cases h
  | builtin b =>
   by_cases hb:b = .append
   ·subst hb
    have hstep:∀ T:Store,stepOp P ty iso call yf ρ ⟨dst,.call ⟨.builtin .append,args,ats⟩,type,pos,after,guard⟩ T nid=match args.toList,ats.toList with
      | [x,y],[t,u]=>if t=u then match ρ x,ρ y with
        | some a,some b=>appendD ty T nid t a b
        | _,_=>none
       else none
      | _,_=>none:=fun T=>by
     simp only[stepOp]
     generalize args.toList=l
     generalize ats.toList=m
     match l,m with
     | [_,_],[_,_]=>rfl
     | [],_=>rfl
     | [_],_=>rfl
     | _::_::_::_,_=>rfl
     | [_,_],[]=>rfl
     | [_,_],[_]=>rfl
     | [_,_],_::_::_::_=>rfl
    simp only[stepDr] at h
    have main:∀ (r:DV×Store) (F:List Nat),stepOp P ty iso call yf ρ ⟨dst,.call ⟨.builtin .append,args,ats⟩,type,pos,after,guard⟩ S nid=some r→S[nid]? = some .none→nid∈F→(∀ rw tk fl,(args[0]?).bind ρ=some (.sl rw (some tk) fl)→tk∈F)→(∀ T:Store,T[nid]? = some .none→stepDr P ty iso call yf ρ ⟨dst,.call ⟨.builtin .append,args,ats⟩,type,pos,after,guard⟩ T nid=(stepOp P ty iso call yf ρ ⟨dst,.call ⟨.builtin .append,args,ats⟩,type,pos,after,guard⟩ T nid).map (fun r=>(r.1,r.2,(⟨some F,true⟩:Foot)))) →
      ∃ w,Eff P ty iso call yf ρ ⟨dst,.call ⟨.builtin .append,args,ats⟩,type,pos,after,guard⟩ S nid r.1 r.2 ⟨some F,true⟩ F w:=by
     intro r F hr hS hnF htk hdr
     rw[hstep] at hr
     split at hr
     ·rename_i a b t u hargs hats
      split at hr
      ·rename_i htu
       split at hr
       ·rename_i da db ha hb'
        obtain⟨w,w1,w2,w3⟩:=appendD_eff (v:=r.1) (S':=r.2) hr (lt_of_some hS)
        have ha0:(args[0]?).bind ρ=some da:=by
         have:args[0]? = some a:=by rw[← Array.getElem?_toList,hargs]; rfl
         rw[this]; exact ha
        refine⟨w,w1,fun i c hw => ?_,fun T hT hx => ?_⟩
        ·obtain⟨h1,h2⟩:=w2 i c hw
         rcases h1 with rfl | ⟨rw',tk,fl,rfl,rfl⟩
         ·exact⟨hnF,rfl,h2⟩
         ·exact⟨htk _ _ _ ha0,rfl,h2⟩
        ·have hl:=hT (List.ne_nil_of_mem hnF)
         have hT2:=(hx nid hnF).trans hS
         have:=w3 T hl fun rw' tk fl hda=>hx tk (htk rw' tk fl (by rw[ha0,hda]))
         rw[hdr T hT2,hstep,hargs,hats]
         simp only[if_pos htu,ha,hb',this,Option.map_some]
       ·cases hr
      ·cases hr
     ·cases hr
    split at h
    ·rename_i rw' tk fl hS hb'
     simp only[Option.map_eq_some_iff,Prod.mk.injEq] at h
     obtain⟨r,h3,rfl,rfl,rfl⟩:=h
     cases hF
     exact main r [tk,nid] h3 hS (by simp) (fun _ _ _ he=>by rw[hb'] at he; cases he; simp) fun T hT=>by simp only[stepDr,hT,hb']
    ·rename_i hS hno
     simp only[Option.map_eq_some_iff,Prod.mk.injEq] at h
     obtain⟨r,h3,rfl,rfl,rfl⟩:=h
     cases hF
     refine main r [nid] h3 hS (by simp) (fun rw' tk fl he=>absurd he (hno rw' tk fl)) fun T hT => ?_
     simp only[stepDr,hT]
    ·cases h
   ·have hop:PlainOp (.call ⟨.builtin b,args,ats⟩):=by cases b<;>first | trivial | exact absurd rfl hb
    have hdr:∀ T,stepDr P ty iso call yf ρ ⟨dst,.call ⟨.builtin b,args,ats⟩,type,pos,after,guard⟩ T nid=(stepOp P ty iso call yf ρ ⟨dst,.call ⟨.builtin b,args,ats⟩,type,pos,after,guard⟩ T nid).map (fun r=>(r.1,r.2,(⟨some [],false⟩:Foot))):=fun T=>by
     cases b<;>first | rfl | exact absurd rfl hb
    rw[hdr] at h
    exact plain hop h hdr
 all_goals exact plain trivial h fun T=>rfl
end Go.Di
end
section
namespace Go.Di
open Go Go.Conc Go.Co
open Go.ConcN (upd upd_same upd_ne)
variable {P:Program} {Final:Machine→Trace→Prop} {ty:Tys} {x:Cx} {iso:IsoF} {call:CallF} {yf:YldF}
theorem stepDr_congr {ρ ρ':Operand→Option DV} {o:Oper} {S:Store} {nid:Nat} (h:∀ a∈o.op.operands,ρ a=ρ' a):stepDr P ty iso call yf ρ o S nid=stepDr P ty iso call yf ρ' o S nid:=by
 have hs:=stepOp_congr (P:=P) (ty:=ty) (iso:=iso) (call:=call) (yf:=yf) (S:=S) (nid:=nid) h
 unfold stepDr
 split
 ·rw[hs]
 ·rw[hs]
 ·rw[hs]
 ·rename_i t a v hop
  rw[hop] at h
  rw[h a (by simp[Op.operands]),hs]
 ·rename_i t m k ok hop
  rw[hop] at h
  rw[h m (by simp[Op.operands]),hs]
 ·rename_i t m k v hop
  rw[hop] at h
  rw[h m (by simp[Op.operands]),hs]
 ·rename_i t a hop
  rw[hop] at h
  rw[h a (by simp[Op.operands]),hs]
 ·rename_i args ats hop
  rw[hop] at h
  have:(args[0]?).bind ρ=(args[0]?).bind ρ':=by
   cases ha:args[0]? with
   | none=>rfl
   | some a=>exact h a (by simp[Op.operands,Call.operands,Array.mem_of_getElem? ha])
  rw[this,hs]
 ·rename_i f args ats hop
  rw[hop] at h
  have h1:ρ f=ρ' f:=h f (by simp[Op.operands,Call.operands])
  have h2:=evs_congr (ρ:=ρ) (ρ':=ρ') (l:=args.toList) fun a ha=>h a (by simp[Op.operands,Call.operands] at ha ⊢; exact .inr ha)
  rw[h1,h2]
 ·rw[hs]
def NoEnter:Op→Prop
 | .call { callee := .value _,.. }=>False
 | _=>True
theorem stepOp_nc {c1 c2:CallF} {ρ:Operand→Option DV} {o:Oper} {S:Store} {nid:Nat} (h:NoEnter o.op):stepOp P ty iso c1 yf ρ o S nid=stepOp P ty iso c2 yf ρ o S nid:=by
 obtain⟨dst,op,type,pos,after,guard⟩:=o
 cases op
 case call c =>
  obtain⟨callee,args,ats⟩:=c
  cases callee with
  | value f=>exact h.elim
  | builtin b=>simp only[stepOp]
  | invoke r m=>simp only[stepOp]
 case makeFunc fn a b=>cases fn<;>simp only[stepOp]
 case makeMap t r=>cases r<;>simp only[stepOp]
 all_goals first
  | rfl
  | simp only[stepOp]
theorem dr_step {ρ:Operand→Option DV} {o:Oper} {S S':Store} {nid:Nat} {v:DV} {f:Foot} (h:stepDr P ty iso call yf ρ o S nid=some (v,S',f)):∃ nid',Nid S nid'∧stepOp P ty iso (call1 call) yf ρ o S nid'=some (v,S'):=by
 obtain⟨dst,op,type,pos,after,guard⟩:=o
 have mp:∀ {q:Option (DV×Store)} {g:DV×Store→Foot},q.map (fun r=>(r.1,r.2,g r))=some (v,S',f)→q=some (v,S'):=by
  intro q g hq
  simp only[Option.map_eq_some_iff,Prod.mk.injEq] at hq
  obtain⟨⟨a,b⟩,h1,h2,h3,-⟩:=hq
  rw[h1,← h2,← h3]
 have plain:∀ {q:Store→Nat→Option (DV×Store)},(∀ n m,q S n=q S m)→q S nid=some (v,S')→∃ nid',Nid S nid'∧q S nid'=some (v,S'):=fun hq h=>⟨S.length,.inl rfl,by rw[hq _ nid]; exact h⟩
 cases op
 case alloc e =>
  simp only[stepDr] at h
  split at h
  ·rename_i hS; exact⟨nid,.inr hS,(stepOp_nc (c2:=call) (by trivial)).trans (mp h)⟩
  ·cases h
 case box e a =>
  simp only[stepDr] at h
  split at h
  ·rename_i hS; exact⟨nid,.inr hS,(stepOp_nc (c2:=call) (by trivial)).trans (mp h)⟩
  ·cases h
 case makeMap e a =>
  simp only[stepDr] at h
  split at h
  ·rename_i hS; exact⟨nid,.inr hS,(stepOp_nc (c2:=call) (by trivial)).trans (mp h)⟩
  ·cases h
 case store t a b =>
  simp only[stepDr] at h
  split at h
  ·exact⟨S.length,.inl rfl,(stepOp_nc (c2:=call) (by trivial)).trans (mp h)⟩
  ·cases h
 case load t a =>
  simp only[stepDr] at h
  split at h
  ·exact⟨S.length,.inl rfl,(stepOp_nc (c2:=call) (by trivial)).trans (mp h)⟩
  ·exact⟨S.length,.inl rfl,(stepOp_nc (c2:=call) (by trivial)).trans (mp h)⟩
 case lookup t m k ok =>
  simp only[stepDr] at h
  split at h
  ·exact⟨S.length,.inl rfl,(stepOp_nc (c2:=call) (by trivial)).trans (mp h)⟩
  ·cases h
 case mapUpdate t m k a =>
  simp only[stepDr] at h
  split at h
  ·exact⟨S.length,.inl rfl,(stepOp_nc (c2:=call) (by trivial)).trans (mp h)⟩
  ·cases h
 case call c =>
  obtain⟨callee,args,ats⟩:=c
  cases callee with
  | invoke r m=>simp[stepDr,stepOp] at h
  | value g =>
   simp only[stepDr] at h
   refine⟨S.length,.inl rfl,?_⟩
   simp only[stepOp]
   split at h
   ·rename_i g' fs cs xs hf hxs
    simp only[callD]
    split at h
    ·rename_i hp
     simp only[Option.map_eq_some_iff,Prod.mk.injEq] at h
     obtain⟨d,h3,rfl,rfl,-⟩:=h
     rw[if_pos hp,h3]
    ·rename_i hp
     rw[if_neg hp]
     unfold call1
     split at h
     ·rename_i ho
      cases h
      rfl
     ·exact mp h
   ·exact mp h
   ·cases h
  | builtin b =>
   by_cases hb:b = .append
   ·subst hb
    simp only[stepDr] at h
    split at h
    ·rename_i hS _; exact⟨nid,.inr hS,(stepOp_nc (c2:=call) (by trivial)).trans (mp h)⟩
    ·rename_i hS _; exact⟨nid,.inr hS,(stepOp_nc (c2:=call) (by trivial)).trans (mp h)⟩
    ·cases h
   ·have hdr:stepDr P ty iso call yf ρ ⟨dst,.call ⟨.builtin b,args,ats⟩,type,pos,after,guard⟩ S nid=(stepOp P ty iso call yf ρ ⟨dst,.call ⟨.builtin b,args,ats⟩,type,pos,after,guard⟩ S nid).map (fun r=>(r.1,r.2,(⟨some [],false⟩:Foot))):=by
     cases b<;>first | rfl | exact absurd rfl hb
    rw[hdr] at h
    have hop:PlainOp (.call ⟨.builtin b,args,ats⟩):=by cases b<;>first | trivial | exact absurd rfl hb
    obtain⟨h1,h2⟩:=plain_eq hop (mp h)
    subst h1
    exact⟨S'.length,.inl rfl,(stepOp_nc (c2:=call) (by trivial)).trans (h2 _ _)⟩
 all_goals
  simp only[stepDr] at h
  obtain⟨h1,h2⟩:=plain_eq (by trivial) (mp h)
  subst h1
  exact⟨S'.length,.inl rfl,(stepOp_nc (c2:=call) (by trivial)).trans (h2 _ _)⟩
theorem dr_top {ρ:Operand→Option DV} {o:Oper} {S S':Store} {nid:Nat} {v:DV} {f:Foot} (h:stepDr P ty iso call yf ρ o S nid=some (v,S',f)) (hf:f.ids=none):f.wr=true:=by
 have mp:∀ {q:Option (DV×Store)} {l:List Nat} {b:Bool},q.map (fun r=>(r.1,r.2,(⟨some l,b⟩:Foot)))=some (v,S',f)→False:=by
  intro q l b hq
  simp only[Option.map_eq_some_iff,Prod.mk.injEq] at hq
  obtain⟨_,-,-,-,rfl⟩:=hq
  cases hf
 have mt:∀ {q:Option (DV×Store)},q.map (fun r=>(r.1,r.2,(⟨none,true⟩:Foot)))=some (v,S',f)→f.wr=true:=by
  intro q hq
  simp only[Option.map_eq_some_iff,Prod.mk.injEq] at hq
  obtain⟨_,-,-,-,rfl⟩:=hq
  rfl
 unfold stepDr at h
 split at h
 case h_9 =>
  split at h
  ·simp only at h
   split at h
   ·simp only[Option.map_eq_some_iff,Prod.mk.injEq] at h
    obtain⟨_,-,-,-,rfl⟩:=h
    cases hf
   ·split at h
    ·cases h; cases hf
    ·exact mt h
  ·exact mt h
  ·cases h
 all_goals (try split at h)
 all_goals first
  | exact(mp h).elim
  | cases h
def touch (F:Nat→Foot) (j id:Nat):Bool:=(F j).wr&&match (F j).ids with
 | none=>true
 | some l=>l.contains id
def top (F:Nat→Foot) (j:Nat):Bool:=(F j).wr&&(F j).ids.isNone
def lastG {α:Type} (W:Nat→Bool) (R:Nat→α) (d:α) (L:Nat→Bool):Nat→α
 | 0=>d
 | n+1=>if L n&&W n then R n else lastG W R d L n
theorem lastG_congr {α:Type} {W:Nat→Bool} {R:Nat→α} {d:α} {L:Nat→Bool} {i:Nat}:∀ {n:Nat},i≤n→(∀ j,j<n→W j=true→(L j=true↔j<i))→lastG W R d L n=lastG W R d (fun _=>true) i
 | 0,h,_=>by
  have:i=0:=by omega
  subst this; rfl
 | n+1,h,hj=>by
  by_cases hin:i=n+1
  ·subst hin
   unfold lastG
   by_cases hd:W n=true
   ·have:=(hj n (by omega) hd).2 (by omega)
    simp only[this,hd,Bool.and_self,if_true]
   ·simp only[Bool.and_eq_true,hd,and_false,if_false,Bool.false_eq_true]
    exact lastG_congr (Nat.le_refl _) fun j h1 h2=>⟨fun _=>h1,fun _=>(hj j (Nat.lt_succ_of_lt h1) h2).2 (Nat.lt_succ_of_lt h1)⟩
  ·have hle:i≤n:=by omega
   rw[← lastG_congr hle fun j h1 h2=>hj j (by omega) h2]
   conv=>lhs; unfold lastG
   by_cases hd:W n=true
   ·have:L n=false:=by
     cases hLn:L n with
     | false=>rfl
     | true=>have:=(hj n (by omega) hd).1 hLn; omega
    rw[this]
    simp
   ·simp[hd]
theorem lastG_other {α:Type} {W:Nat→Bool} {R:Nat→α} {d:α} {L:Nat→Bool} {i:Nat} (hd:W i=false):∀ n,lastG W R d (upd L i true) n=lastG W R d L n
 | 0=>rfl
 | n+1=>by
  unfold lastG
  rw[lastG_other hd n]
  by_cases h:n=i
  ·subst h; simp[hd]
  ·rw[upd_ne _ _ h]
theorem lastG_last {α:Type} {W:Nat→Bool} {R:Nat→α} {d:α} {i:Nat} (hd:W i=true):lastG W R d (fun _=>true) (i+1)=R i:=by unfold lastG; simp[hd]
structure RunIs (P:Program) (ty:Tys) (iso:IsoF) (call:CallF) (yf:YldF) (ops:Array Oper) (n0:Nat) (E:Nat→List DV) (V:Nat→DV) (M:Nat→Store) (F:Nat→Foot):Prop where
 env:SeqIs ops V E
 yes:∀ j o,ops[j]? = some o→wantedD ops (E j) o=true→stepDr P ty iso call yf (evD (E j)) o (M j) (n0+j)=some (V j,M (j+1),F j)
 no:∀ j o,ops[j]? = some o→wantedD ops (E j) o=false→V j=dundef∧M (j+1)=M j∧F j=⟨some [],false⟩
theorem runDr_seq {ops:Array Oper} {n0:Nat}:∀ {r:List Oper} {i:Nat} {env env':List DV} {S S':Store} {fs:List Foot},runDr P ty iso call yf ops n0 r i env S=some (env',S',fs) →
  ∃ (E:Nat→List DV) (V:Nat→DV) (M:Nat→Store) (F:Nat→Foot),E 0=env∧E r.length=env'∧M 0=S∧M r.length=S'∧(fs.length=r.length∧∀ j,j<r.length→fs[j]? = some (F j)) ∧
   ∀ j o,r[j]? = some o→E (j+1)=putD (E j) o.dst (V j)∧(wantedD ops (E j) o=true→stepDr P ty iso call yf (evD (E j)) o (M j) (n0+(i+j))=some (V j,M (j+1),F j))∧(wantedD ops (E j) o=false→V j=dundef∧M (j+1)=M j∧F j=⟨some [],false⟩)
 | [],i,env,env',S,S',fs,h=>by
  simp only[runDr,Option.some.injEq,Prod.mk.injEq] at h
  obtain⟨rfl,rfl,rfl⟩:=h
  exact⟨fun _=>env,fun _=>dundef,fun _=>S,fun _=>⟨some [],false⟩,rfl,rfl,rfl,rfl,⟨rfl,by simp⟩,by simp⟩
 | o::r,i,env,env',S,S',fs,h=>by
  unfold runDr at h
  have key:∀ v S1 f env'' S'' fs'',runDr P ty iso call yf ops n0 r (i+1) (putD env o.dst v) S1=some (env'',S'',fs'')→(wantedD ops env o=true→stepDr P ty iso call yf (evD env) o S (n0+i)=some (v,S1,f))→(wantedD ops env o=false→v=dundef∧S1=S∧f=⟨some [],false⟩)→some (env'',S'',f::fs'')=some (env',S',fs) →
    ∃ (E:Nat→List DV) (V:Nat→DV) (M:Nat→Store) (F:Nat→Foot),E 0=env∧E (o::r).length=env'∧M 0=S∧M (o::r).length=S'∧(fs.length=(o::r).length∧∀ j,j<(o::r).length→fs[j]? = some (F j)) ∧
     ∀ j o',(o::r)[j]? = some o'→E (j+1)=putD (E j) o'.dst (V j)∧(wantedD ops (E j) o'=true→stepDr P ty iso call yf (evD (E j)) o' (M j) (n0+(i+j))=some (V j,M (j+1),F j))∧(wantedD ops (E j) o'=false→V j=dundef∧M (j+1)=M j∧F j=⟨some [],false⟩):=by
   intro v S1 f env'' S'' fs'' h1 h2 h3 h4
   cases h4
   obtain⟨E,V,M,F,e1,e2,e3,e4,e5,e6⟩:=runDr_seq h1
   refine⟨fun n=>match n with | 0=>env | n+1=>E n,fun n=>match n with | 0=>v | n+1=>V n,fun n=>match n with | 0=>S | n+1=>M n,fun n=>match n with | 0=>f | n+1=>F n,rfl,by simpa using e2,rfl,by simpa using e4,⟨by simp[e5.1],fun j hj => ?_⟩,fun j o' ho' => ?_⟩
   ·cases j with
    | zero=>rfl
    | succ j=>simpa using e5.2 j (by simpa using hj)
   ·cases j with
    | zero =>
     simp only[List.getElem?_cons_zero,Option.some.injEq] at ho'
     subst ho'
     exact⟨e1,fun hw=>by have:=h2 hw; rw[← e3] at this; exact this,fun hw=>by have:=h3 hw; rw[← e3] at this; exact this⟩
    | succ j =>
     have:=e6 j o' (by simpa using ho')
     have e:i+(j+1)=i+1+j:=by omega
     rw[e]
     exact this
  split at h
  ·rename_i hw
   split at h
   ·rename_i v S1 f h1
    split at h
    ·rename_i env'' S'' fs'' h2
     exact key v S1 f _ _ _ h2 (fun _=>h1) (fun hf=>by rw[hw] at hf; cases hf) h
    ·cases h
   ·cases h
  ·rename_i hw
   split at h
   ·rename_i env'' S'' fs'' h2
    exact key dundef S ⟨some [],false⟩ _ _ _ h2 (fun ht=>absurd ht hw) (fun _=>⟨rfl,rfl,rfl⟩) h
   ·cases h
theorem run_is {ops:Array Oper} {n0:Nat} {env env':List DV} {S S':Store} {fs:List Foot} (h:runDr P ty iso call yf ops n0 ops.toList 0 env S=some (env',S',fs)) :
  ∃ (E:Nat→List DV) (V:Nat→DV) (M:Nat→Store) (F:Nat→Foot),RunIs P ty iso call yf ops n0 E V M F∧E 0=env∧E ops.size=env'∧M 0=S∧M ops.size=S'∧∀ j,j<ops.size→fs[j]? = some (F j):=by
 obtain⟨E,V,M,F,e1,e2,e3,e4,e5,e6⟩:=runDr_seq h
 refine⟨E,V,M,F,⟨fun j o ho=>(e6 j o (by simpa using ho)).1,fun j o ho hw => ?_,fun j o ho hw=>(e6 j o (by simpa using ho)).2.2 hw⟩,e1,by simpa using e2,e3,by simpa using e4,fun j hj=>e5.2 j (by simpa using hj)⟩
 have:=(e6 j o (by simpa using ho)).2.1 hw
 simpa using this
theorem app_get {w:Option (Nat×DB)} {S:Store} (h:∀ i b,w=some (i,b)→i<S.length) (id:Nat):(appW w S)[id]? = match w with | some (i,b)=>if id=i then some b else S[id]? | none=>S[id]? := by
 cases w with
 | none=>rfl
 | some p =>
  obtain⟨i,b⟩:=p
  have hlt:=h i b rfl
  simp only[appW]
  rw[List.getElem?_set]
  by_cases h1:id=i
  ·subst h1; simp[hlt]
  ·rw[if_neg (Ne.symm h1),if_neg h1]
theorem app_len {w:Option (Nat×DB)} {S:Store}:(appW w S).length=S.length:=by cases w<;>simp[appW]
theorem run_store {ops:Array Oper} {n0:Nat} {E:Nat→List DV} {V:Nat→DV} {M:Nat→Store} {F:Nat→Foot} (h:RunIs P ty iso call yf ops n0 E V M F) (id:Nat):∀ i,i≤ops.size →
  (M i)[id]? = lastG (fun j=>touch F j id) (fun j=>(M (j+1))[id]?) ((M 0)[id]?) (fun _=>true) i∧(M i).length=lastG (top F) (fun j=>(M (j+1)).length) (M 0).length (fun _=>true) i
 | 0,_=>⟨rfl,rfl⟩
 | i+1,hi=>by
  have ho:ops[i]? = some ops[i]:=Array.getElem?_eq_getElem (by omega)
  obtain⟨ih1,ih2⟩:=run_store h id i (by omega)
  unfold lastG
  simp only[Bool.true_and]
  rw[← ih1,← ih2]
  cases hw:wantedD ops (E i) ops[i] with
  | false =>
   obtain⟨h1,h2,h3⟩:=h.no i _ ho hw
   rw[h2]
   simp
  | true =>
   have hs:=h.yes i _ ho hw
   cases hids:(F i).ids with
   | none =>
    have:=dr_top hs hids
    simp[touch,top,hids,this]
   | some l =>
    obtain⟨w,w1,w2,w3⟩:=dr_eff hs hids
    constructor
    ·split
     ·rfl
     ·rename_i hnt
      rw[w1,app_get fun i b hw=>(w2 i b hw).2.2]
      cases w with
      | none=>rfl
      | some p =>
       obtain⟨i',b⟩:=p
       obtain⟨q1,q2,q3⟩:=w2 i' b rfl
       have hne:id≠i':=by
        rintro rfl
        apply hnt
        simp[touch,q2,hids,q1]
       simp[hne]
    ·rw[w1,app_len]
     simp[top,hids]
theorem met_of {b:Array Nat} {fs:List Foot} (h:metOk b fs=true) {i j:Nat} {f g:Foot} (hi:fs[i]? = some f) (hj:fs[j]? = some g) (hne:i≠j) (hm:f.meets g=true):(b.getD j 0).testBit i=true∨(b.getD i 0).testBit j=true:=by
 unfold metOk at h
 simp only[List.all_eq_true] at h
 have h1:=h (f,i) (by rw[List.mem_zipIdx_iff_getElem?]; exact hi) (g,j) (by rw[List.mem_zipIdx_iff_getElem?]; exact hj)
 have h2:(i==j)=false:=by simpa using hne
 simp only[h2,hm,Bool.not_true,Bool.or_false,Bool.false_or,Bool.or_eq_true] at h1
 exact h1
end Go.Di
end
section
namespace Go.Di
open Go Go.Conc Go.Co
variable {P:Program} {Final:Machine→Trace→Prop} {x y:Cx} {i:Nat} {l l0 l':List DV} {T:Store}
def Cx.only (x:Cx) (i:Nat) (l:List DV):Cx:={ x with μ:=fun _=>x.μ i,κ:=fun _=>0,S:=[.cells l] }
theorem rvs_strip1 {x y:Cx} (hF:∀ b o,x.Fz b o→y.Fz b o∧y.w.cell? ⟨b,o,none⟩=x.w.cell? ⟨b,o,none⟩) {l:List DV} {arr:Array Value} (hl:(l.map DV.strip1).all DV.pure1=true) (h:RVs x l arr):RVs y (l.map DV.strip1) arr:=by
 refine⟨by simpa using h.1,fun j c hj => ?_⟩
 have hm:=List.all_eq_true.1 hl c (List.mem_of_getElem? hj)
 simp only[List.getElem?_map,Option.map_eq_some_iff] at hj
 obtain⟨c',h2,rfl⟩:=hj
 exact(h.2 j c' h2).strip1.pure1_mono hF hm
theorem rvs_strip {x y:Cx} (hF:∀ b o,x.Fz b o→y.Fz b o∧y.w.cell? ⟨b,o,none⟩=x.w.cell? ⟨b,o,none⟩) {l:List DV} (hl:(l.map DV.strip).all DV.pure=true) {j:Nat} {c:DV} {v:Value} (hj:(l.map DV.strip)[j]? = some c) (h:∀ c',l[j]? = some c'→RV x c' v):RV y c v:=by
 have hm:=List.all_eq_true.1 hl c (List.mem_of_getElem? hj)
 simp only[List.getElem?_map,Option.map_eq_some_iff] at hj
 obtain⟨c',h2,rfl⟩:=hj
 exact(h c' h2).strip.pure_mono hF hm
theorem only_get {l:List DV} {k:Nat} {b:DB} (h:([.cells l]:Store)[k]? = some b):k=0∧b = .cells l:=by
 cases k with
 | zero=>simp at h; exact⟨rfl,h.symm⟩
 | succ k=>simp at h
theorem rel_only (hR:Rel x) (hi:x.S[i]? = some (.cells l)) (hl:(l.map DV.strip1).all DV.pure1=true):Rel (x.only i (l.map DV.strip1)):=by
 refine⟨fun id l2 h => ?_,fun id e s n h => ?_,fun id b h hb => ?_,fun j k hj hk _ => ?_,hR.frz,fun id h o hF => ?_,fun id e s n h => ?_⟩
 ·obtain⟨rfl,h2⟩:=only_get h
  cases h2
  obtain⟨arr,e,h1,h2,h3⟩:=hR.cells i l hi
  refine⟨arr,e,h1,?_⟩
  exact rvs_strip1 (x:=x) (y:=x.only i (l.map DV.strip1)) (fun b o h=>⟨h,rfl⟩) hl ⟨h2,h3⟩
 ·exact nomatch (only_get h).2
 ·obtain⟨-,rfl⟩:=only_get h
  cases hb
 ·obtain⟨b,hb,-⟩:=hj
  obtain⟨c,hc,-⟩:=hk
  rw[(only_get hb).1,(only_get hc).1]
 ·exact hR.sep i ⟨l,hi⟩ o hF
 ·exact nomatch (only_get h).2
def Cx.back (x y:Cx) (i:Nat) (l':List DV):Cx:={ w:=y.w,μ:=x.μ,κ:=x.κ,Fz:=y.Fz,S:=x.S.set i (.cells l') }
theorem setk_get {S:Store} {i k:Nat} {b c d:DB} (hi:S[i]? = some d) (h:(S.set i c)[k]? = some b):(k=i∧b=c)∨(k≠i∧S[k]? = some b):=by
 rw[List.getElem?_set] at h
 split at h
 ·rename_i he
  subst he
  rw[if_pos (List.getElem?_eq_some_iff.1 hi).1] at h
  cases h
  exact .inl ⟨rfl,rfl⟩
 ·rename_i he
  exact .inr ⟨fun e=>he e.symm,h⟩
theorem setk_same {S:Store} {i k:Nat} {c:DB} (h:k≠i):(S.set i c)[k]? = S[k]? := by
 rw[List.getElem?_set,if_neg fun e=>h e.symm]
theorem setk_here {S:Store} {i:Nat} {c d:DB} (hi:S[i]? = some d):(S.set i c)[i]? = some c:=by
 rw[List.getElem?_set,if_pos rfl,if_pos (List.getElem?_eq_some_iff.1 hi).1]
theorem old_back (hR:Rel x) (hi:x.S[i]? = some (.cells l)) (M:Mono (x.only i l0) y) {id:Nat} {b:DB} {o:Obj} (hb:x.S[id]? = some b) (hne:b ≠ .none) (hid:id≠i) (ho:x.w.heap[x.μ id]? = some o):y.w.heap[x.μ id]? = x.w.heap[x.μ id]? := by
 refine M.old _ (Array.getElem?_eq_some_iff.1 ho).1 fun k _ he => ?_
 exact hid (hR.inj i id ⟨_,hi,by simp⟩ ⟨b,hb,hne⟩ he).symm
theorem mono_back (hR:Rel x) (hi:x.S[i]? = some (.cells l)) (M:Mono (x.only i l0) y):Mono x (x.back y i l') where
 size:=M.size
 env:=M.env
 fz:=M.fz
 nfz:=fun b o h=>(M.nfz b o h).imp id fun h=>h.imp id fun⟨k,_,he⟩=>⟨i,⟨_,hi,by simp⟩,he⟩
 old:=fun b hb hn=>M.old b hb fun k _ he=>hn i ⟨_,hi,by simp⟩ he
 len:=by simp[Cx.back]
 cells:=fun id l2 h=>⟨rfl,by
  by_cases he:id=i
  ·subst he; exact⟨l',setk_here hi⟩
  ·exact⟨l2,(setk_same he).trans h⟩⟩
 objs:=fun id b h hb=>by
  have he:id≠i:=by rintro rfl; rw[hi] at h; cases h; cases hb
  obtain⟨o,ho,-⟩:=hR.objs id b h hb
  exact⟨rfl,⟨b,(setk_same he).trans h,like_refl hb⟩,fun _=>old_back hR hi M h (obj_live hb) he ho⟩
 tails:=fun t e s n h=>by
  have he:t≠i:=by rintro rfl; rw[hi] at h; cases h
  exact⟨n,(setk_same he).trans h,Nat.le_refl _,fun _=>⟨rfl,rfl⟩⟩
 live:=fun k ⟨b,hb,hne⟩ => .inl ⟨by
  rcases setk_get hi hb with ⟨rfl,-⟩ | ⟨-,h⟩
  ·exact⟨_,hi,by simp⟩
  ·exact⟨b,h,hne⟩,rfl⟩
theorem rel_back (hR:Rel x) (hi:x.S[i]? = some (.cells l)) (hRy:Rel y) (M:Mono (x.only i l0) y) (hy:y.S[0]? = some (.cells l')) (hl':(l'.map DV.strip1).all DV.pure1=true):Rel (x.back y i (l'.map DV.strip1)):=by
 have MB:=mono_back (l':=l'.map DV.strip1) hR hi M
 have hμ:y.μ 0=x.μ i:=(M.cells 0 l0 rfl).1
 have hF:∀ b o,y.Fz b o→x.Fz b o∨x.w.heap.size≤b∨b=x.μ i:=fun b o h=>(M.nfz b o h).imp id fun h=>h.imp id fun⟨_,_,he⟩=>he.symm
 refine⟨fun id l2 h => ?_,fun id e s n h => ?_,fun id b h hb => ?_,fun j k hj hk he => ?_,hRy.frz,fun id h o hf => ?_,fun id e s n h o hf => ?_⟩
 ·rcases setk_get hi h with ⟨rfl,h2⟩ | ⟨he,h2⟩
  ·cases h2
   obtain⟨arr,e,h1,h2,h3⟩:=hRy.cells 0 l' hy
   exact⟨arr,e,by rw[hμ] at h1; exact h1,rvs_strip1 (x:=y) (y:=x.back y id (l'.map DV.strip1)) (fun b o h=>⟨h,rfl⟩) hl' ⟨h2,h3⟩⟩
  ·obtain⟨arr,e,h1,h3,h4⟩:=hR.cells id l2 h2
   exact⟨arr,e,(old_back hR hi M h2 (by simp) he h1).trans h1,h3,fun j c hc=>(h4 j c hc).mono MB⟩
 ·rcases setk_get hi h with ⟨rfl,h2⟩ | ⟨he,h2⟩
  ·cases h2
  ·obtain⟨arr,h1,h3⟩:=hR.tails id e s n h2
   exact⟨arr,(old_back hR hi M h2 (by simp) he h1).trans h1,h3⟩
 ·rcases setk_get hi h with ⟨rfl,h2⟩ | ⟨he,h2⟩
  ·subst h2; cases hb
  ·obtain⟨o,h1,h3⟩:=hR.objs id b h2 hb
   exact⟨o,(old_back hR hi M h2 (obj_live hb) he h1).trans h1,h3.mono MB⟩
 ·have lv:∀ {k},Live (x.back y i (l'.map DV.strip1)).S k→Live x.S k:=fun {k} ⟨b,hb,hne⟩=>by
   rcases setk_get hi hb with ⟨rfl,-⟩ | ⟨-,h⟩
   ·exact⟨_,hi,by simp⟩
   ·exact⟨b,h,hne⟩
  exact hR.inj j k (lv hj) (lv hk) he
 ·obtain⟨l2,h⟩:=h
  obtain⟨l3,h3⟩:∃ l3,x.S[id]? = some (.cells l3):=by
   rcases setk_get hi h with ⟨rfl,-⟩ | ⟨-,h2⟩
   ·exact⟨l,hi⟩
   ·exact⟨l2,h2⟩
  obtain⟨arr,e,h4,-⟩:=hR.cells id l3 h3
  rcases hF _ _ hf with h5 | h5 | h5
  ·exact hR.sep id ⟨l3,h3⟩ o h5
  ·have:=(Array.getElem?_eq_some_iff.1 h4).1
   change x.w.heap.size≤x.μ id at h5
   omega
  ·refine hRy.sep 0 ⟨l',hy⟩ o ?_
   rw[hμ,← h5]
   exact hf
 ·rcases setk_get hi h with ⟨rfl,h2⟩ | ⟨he,h2⟩
  ·cases h2
  ·obtain⟨arr,h4,-⟩:=hR.tails id e s n h2
   rcases hF _ _ hf with h5 | h5 | h5
   ·exact hR.sept id e s n h2 o h5
   ·have:=(Array.getElem?_eq_some_iff.1 h4).1
    change x.w.heap.size≤x.μ id at h5
    omega
   ·exact absurd (hR.inj id i ⟨_,h2,by simp⟩ ⟨_,hi,by simp⟩ h5) he
theorem enter_only {f:FuncId} {off:Nat} {rest:List DV} {vals:Array Value} {v:DV} (hR:Rel x) (hi:x.S[i]? = some (.cells l)) (hp:(rest.map DV.strip).all DV.pure=true) (ha:RVs x (.ptr i off::rest) vals)
  (h:RVs (x.only i l0) (.ptr 0 off::rest.map DV.strip) vals→EnterOK P Final (x.only i l0) f vals fun y u=>y.S = .cells l'::T∧Rel y∧Mono (x.only i l0) y∧RV y v u) (hl':(l'.map DV.strip1).all DV.pure1=true) (hv:v.strip.pure=true) :
  EnterOK P Final x f vals fun z u=>z.S=x.S.set i (.cells (l'.map DV.strip1))∧Rel z∧Mono x z∧RV z v.strip u:=by
 have ha':RVs (x.only i l0) (.ptr 0 off::rest.map DV.strip) vals:=by
  refine⟨by simpa using ha.1,fun j c hc => ?_⟩
  cases j with
  | zero =>
   simp only[List.getElem?_cons_zero,Option.some.injEq] at hc
   subst hc
   have:=ha.2 0 _ rfl
   generalize vals.getD 0 undef=u at this
   cases this with
   | ptr _=>exact RV.ptr (x:=x.only i l0) (id:=0) (l:=l0) rfl
  | succ j =>
   exact rvs_strip (x:=x) (y:=x.only i l0) (fun b o h=>⟨h,rfl⟩) hp (by simpa using hc) fun c' h1=>ha.2 (j+1) c' (by simpa using h1)
 obtain⟨h1,h2⟩:=h ha'
 refine⟨h1,fun fr cs hn=>h2 fr cs fun y u ⟨q1,q2,q3,q4⟩ => ?_⟩
 have hy:y.S[0]? = some (.cells l'):=by rw[q1]; rfl
 exact hn (x.back y i (l'.map DV.strip1)) u ⟨rfl,rel_back hR hi q2 q3 hy hl',mono_back hR hi q3,q4.strip.pure_mono (x:=y) (y:=x.back y i (l'.map DV.strip1)) (fun b o h=>⟨h,rfl⟩) hv⟩
theorem call1_ok {call:CallF} (hc:CallOK P Final call):CallOK P Final (call1 call):=by
 intro f args S v S' h x vals hR hS ha
 subst hS
 unfold call1 at h
 split at h
 ·rename_i i v1 l1 ho
  cases h
  unfold onlyD at ho
  split at ho
  ·rename_i i off rest
   split at ho
   ·rename_i l hi
    split at ho
    ·rename_i hpp
     simp only[Bool.and_eq_true] at hpp
     split at ho
     ·rename_i v2 l' T hcall
      split at ho
      ·rename_i hq
       simp only[Bool.and_eq_true] at hq
       cases ho
       exact enter_only (l0:=l.map DV.strip1) hR hi hpp.1 ha (fun ha2=>hc _ _ _ _ _ hcall (x.only _ _) vals (rel_only hR hi hpp.2) rfl ha2) hq.2 hq.1
      ·cases ho
     ·cases ho
    ·cases ho
   ·cases ho
  ·cases ho
 ·exact hc _ _ _ _ _ h x vals hR rfl ha
end Go.Di
end
