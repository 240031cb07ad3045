import Derived.Test.YtedcgbkilmlbhaaPk26
section
namespace Go.Di
open Go Go.Conc Go.Co
open Go.ConcN (sumTo sumTo_upd sumTo_congr le_sumTo upd upd_same upd_ne)
variable {P:Program} {af:Machine→Trace→Prop} {ty:eS} {x:Cx} {aD:bq} {call:bg} {yf:dF}
def DF (ops:Array Oper):Prop:=∀ i o,ops[i]? = some o→∀ e∈o.after,Region.binds .any e=true→e.on<i
theorem Bp {ops:Array Oper} (mc:DF ops) {i j:Nat} (hne:i≠j) (h:((Region.before ops).getD j 0).testBit i=true):i<j:=by
  have tU:Closed ops fun k=>decide (k≤j):=by
    intro k o ho hk e he hb
    have:=mc k o ho e he hb
    simp only[decide_eq_true_eq] at hk ⊢
    omega
  have:=o7 ops tU j i h (by simp)
  simp only[decide_eq_true_eq] at this
  omega
theorem Im {ops:Array Oper} (mc:DF ops) {L:Nat→Bool} (hL:Closed ops L) {i j:Nat} {o:Oper} (ho:ops[i]? = some o) (hi:L i=false) (ql:∀ e∈o.after,Region.binds .any e=true→L e.on=true) (hne:i≠j)
    (h:((Region.before ops).getD j 0).testBit i=true∨((Region.before ops).getD i 0).testBit j=true):L j=true↔j<i:=by
  rcases h with h | h
  · have h1:=Bp mc hne h
    refine⟨fun hj => ?_,fun hj=>by omega⟩
    have:=o7 ops hL j i h hj
    rw[hi] at this
    cases this
  · have h1:=Bp mc (Ne.symm hne) h
    refine⟨fun _=>h1,fun _ => ?_⟩
    have tU:Closed ops (upd L i true):=by
      intro k o' iS hk e he hb
      by_cases KP:k=i
      · subst KP
        rw[ho] at iS
        cases iS
        by_cases Hi:e.on=k
        · rw[Hi,upd_same]
        · rw[upd_ne _ _ Hi]; exact ql e he hb
      · rw[upd_ne _ _ KP] at hk
        by_cases Hi:e.on=i
        · rw[Hi,upd_same]
        · rw[upd_ne _ _ Hi]; exact hL k o' iS hk e he hb
    have:=o7 ops tU i j h (upd_same _ _ _)
    rwa [upd_ne _ _ (Ne.symm hne)] at this
def lz (ops:Array Oper) (j:Nat) (t:Tmp):Bool:=match ops[j]? with
  | some o=>o.dst==some t
  | none=>false
def js (ops:Array Oper) (V:Nat→DV) (L:Nat→Bool) (t:Tmp):Nat→Option DV
  | 0=>none
  | n+1=>if L n&&lz ops n t then some (V n) else js ops V L t n
theorem ir {ops:Array Oper} {V:Nat→DV} {L:Nat→Bool} {t:Tmp} {i:Nat}:∀ {n:Nat},i≤n→(∀ j,j<n→lz ops j t=true→(L j=true↔j<i))→js ops V L t n=js ops V (fun _=>true) t i
  | 0,h,_=>by
    have:i=0:=by omega
    subst this; rfl
  | n+1,h,hj=>by
    by_cases kZ:i=n+1
    · subst kZ
      unfold js
      by_cases hd:lz ops n t=true
      · have:=(hj n (by omega) hd).2 (by omega)
        simp only[this,hd,Bool.and_self,if_true]
      · simp only[Bool.and_eq_true,hd,and_false,if_false,Bool.false_eq_true]
        exact ir (Nat.le_refl _) fun j h1 h2=>⟨fun _=>h1,fun _=>(hj j (Nat.lt_succ_of_lt h1) h2).2 (Nat.lt_succ_of_lt h1)⟩
    · have hle:i≤n:=by omega
      rw[← ir hle fun j h1 h2=>hj j (by omega) h2]
      conv=>lhs; unfold js
      by_cases hd:lz ops n t=true
      · have:L n=false:=by
          cases hLn:L n with
          | false=>rfl
          | true=>have:=(hj n (by omega) hd).1 hLn; omega
        rw[this]
        simp
      · simp[hd]
theorem vL {ops:Array Oper} {V:Nat→DV} {L:Nat→Bool} {t:Tmp} {i:Nat} (hd:lz ops i t=false):∀ n,js ops V (upd L i true) t n=js ops V L t n
  | 0=>rfl
  | n+1=>by
    unfold js
    rw[vL hd n]
    by_cases h:n=i
    · subst h; simp[hd]
    · rw[upd_ne _ _ h]
def AB (ops:Array Oper) (V:Nat→DV) (L:Nat→Bool) (n:Nat) (aa1 env:List DV):Prop:=∀ t,env[t]? = (aa1[t]?).map fun d=>(js ops V L t n).getD d
theorem Eb (env:List DV) (dst:Option Tmp) (v:DV) (t:Tmp):(gC env dst v)[t]? = if dst=some t then (env[t]?).map fun _=>v else env[t]? := by
  cases dst with
  | none=>simp[gC]
  | some d =>
    simp only[gC,List.getElem?_set,Option.some.injEq]
    by_cases h:d=t
    · subst h
      by_cases hl:d<env.length
      · simp[hl]
      · simp[hl]
    · simp[h]
def HH (ops:Array Oper) (V:Nat→DV) (E:Nat→List DV):Prop:=∀ j o,ops[j]? = some o→E (j+1)=gC (E j) o.dst (V j)
theorem wL {ops:Array Oper} {V:Nat→DV} {E:Nat→List DV} (h:HH ops V E):∀ i,i≤ops.size→AB ops V (fun _=>true) i (E 0) (E i)
  | 0,_=>fun t=>by simp[js]
  | i+1,hi=>fun t=>by
    have ho:ops[i]? = some ops[i]:=Array.getElem?_eq_getElem (by omega)
    have ih:=wL h i (by omega) t
    rw[h i _ ho,Eb]
    unfold js
    have hd:lz ops i t=(ops[i].dst==some t):=by unfold lz; rw[ho]
    by_cases PC:ops[i].dst=some t
    · simp only[PC,if_true,hd,beq_self_eq_true,Bool.and_self,Option.getD_some,ih,Option.map_map]
      rfl
    · have:(ops[i].dst==some t)=false:=by simpa using PC
      simp only[PC,if_false,hd,this,Bool.and_false,Bool.false_eq_true]
      exact ih
theorem Bh {ops:Array Oper} {V:Nat→DV} {E:Nat→List DV} {L:Nat→Bool} {env:List DV} {i:Nat} {o:Oper} (ho:ops[i]? = some o) (hE:AB ops V L ops.size (E 0) env)
    (ZA:∀ t,o.dst=some t→∀ j,j<ops.size→lz ops j t=true→(upd L i true j=true↔j<i+1)):AB ops V (upd L i true) ops.size (E 0) (gC env o.dst (V i)):=by
  intro t
  have hi:i<ops.size:=(Array.getElem?_eq_some_iff.1 ho).1
  rw[Eb]
  have hd:lz ops i t=(o.dst==some t):=by unfold lz; rw[ho]
  by_cases PC:o.dst=some t
  · have e:js ops V (fun _=>true) t (i+1)=some (V i):=by unfold js; simp[hd,PC]
    rw[if_pos PC,ir (i:=i+1) (by omega) (ZA t PC),hE t,e]
    simp[Function.comp_def]
  · have h2:lz ops i t=false:=by rw[hd]; simpa using PC
    rw[if_neg PC,vL h2]
    exact hE t
theorem vI {ops:Array Oper} (mc:DF ops) (Bv:iE ops (Region.before ops)=true) {V:Nat→DV} {E:Nat→List DV} (hS:HH ops V E) {L:Nat→Bool} (hL:Closed ops L) {env:List DV} (hE:AB ops V L ops.size (E 0) env) {i:Nat} {o:Oper} (ho:ops[i]? = some o) (hi:L i=false)
    (ql:∀ e∈o.after,Region.binds .any e=true→L e.on=true):(∀ t∈iF ops o,env[t]? = (E i)[t]?)∧∀ t,o.dst=some t→∀ j,j<ops.size→lz ops j t=true→(upd L i true j=true↔j<i+1):=by
  have W5:i<ops.size:=(Array.getElem?_eq_some_iff.1 ho).1
  have hx:∀ t∈iF ops o,∀ j,j<ops.size→j≠i→lz ops j t=true→(L j=true↔j<i):=by
    intro t ht j hj hne hd
    have hoj:ops[j]? = some ops[j]:=Array.getElem?_eq_getElem hj
    have KQ:ops[j].dst=some t:=by unfold lz at hd; rw[hoj] at hd; simpa using hd
    refine Im mc hL ho hi ql (Ne.symm hne) ?_
    unfold iE at Bv
    simp only[Bool.and_eq_true,List.all_eq_true] at Bv
    have h1:=Bv.2 (o,i) (by rw[List.mem_zipIdx_iff_getElem?]; simpa using ho) (ops[j],j) (by rw[List.mem_zipIdx_iff_getElem?]; simp)
    simp only[KQ] at h1
    have hc:(iF ops o).contains t=true:=by simpa using ht
    simp only[hc,Bool.not_true,Bool.or_false,Bool.or_eq_true,beq_iff_eq] at h1
    rcases h1 with (h1 | h1) | h1
    · exact absurd h1.symm hne
    · exact .inl h1
    · exact .inr h1
  constructor
  · intro t ht
    rw[hE t,wL hS i (by omega) t]
    congr 1
    funext d
    rw[ir (i:=i) (by omega) fun j hj hd => ?_]
    by_cases eB:j=i
    · subst eB; simp[hi]
    · exact hx t ht j hj eB hd
  · intro t ht j hj hd
    by_cases eB:j=i
    · subst eB; simp[upd_same]
    · rw[upd_ne _ _ eB,hx t (by simp[iF,ht]) j hj eB hd]
      omega
theorem Bf {ops:Array Oper} {o:Oper} {env az:List DV} (h:∀ t∈iF ops o,env[t]? = az[t]?):∀ a∈o.op.operands,fM env a=fM az a:=by
  intro a ha
  cases a with
  | tmp t =>
    have:t∈iF ops o:=by
      unfold iF
      simp only[List.mem_append]
      left; right
      rw[List.mem_filterMap]
      exact⟨.tmp t,by simpa using ha,rfl⟩
    simp only[fM,List.getD_eq_getElem?_getD,h t this]
  | _=>rfl
theorem tC {ops:Array Oper} {o:Oper} {env az:List DV} (h:∀ t∈iF ops o,env[t]? = az[t]?):bC ops env o=bC ops az o:=by
  unfold bC
  cases hg:o.guard with
  | none=>rfl
  | some g =>
    obtain⟨j,want⟩:=g
    simp only
    cases hb:(ops[j]?).bind (·.dst) with
    | none=>rfl
    | some t =>
      have:t∈iF ops o:=by
        unfold iF
        rw[hg]
        simp[hb]
      simp only[h t this]
theorem Ee {ops:Array Oper} (h:iE ops (Region.before ops)=true):DF ops:=by
  intro i o ho e he hb
  unfold iE at h
  simp only[Bool.and_eq_true,List.all_eq_true,Array.all_eq_true'] at h
  have h1:=h.1 (o,i) (by rw[List.mem_zipIdx_iff_getElem?]; simpa using ho) e he
  simpa [hb] using h1
theorem D4 {ops:Array Oper} {S:ak}:∀ {r:List Oper} {env az:List DV},lN P ty aD call yf ops S r env=some az→∃ (E:Nat→List DV) (V:Nat→DV),E 0=env∧E r.length=az ∧
    ∀ j o,r[j]? = some o→E (j+1)=gC (E j) o.dst (V j)∧(bC ops (E j) o=true→bZ P ty aD call yf (fM (E j)) o S=some (V j))∧(bC ops (E j) o=false→V j=aV)
  | [],env,az,h=>by
    simp only[lN,Option.some.injEq] at h
    exact⟨fun _=>env,fun _=>aV,rfl,h,by simp⟩
  | o::r,env,az,h=>by
    unfold lN at h
    have key:∀ v,lN P ty aD call yf ops S r (gC env o.dst v)=some az→(bC ops env o=true→bZ P ty aD call yf (fM env) o S=some v)→(bC ops env o=false→v=aV)→∃ (E:Nat→List DV) (V:Nat→DV),E 0=env∧E (o::r).length=az ∧
        ∀ j o',(o::r)[j]? = some o'→E (j+1)=gC (E j) o'.dst (V j)∧(bC ops (E j) o'=true→bZ P ty aD call yf (fM (E j)) o' S=some (V j))∧(bC ops (E j) o'=false→V j=aV):=fun v h1 h2 h3=>by
      obtain⟨E,V,e1,e2,e3⟩:=D4 h1
      refine⟨fun n=>match n with | 0=>env | n+1=>E n,fun n=>match n with | 0=>v | n+1=>V n,rfl,by simpa using e2,fun j o' iS => ?_⟩
      cases j with
      | zero =>
        simp only[List.getElem?_cons_zero,Option.some.injEq] at iS
        subst iS
        exact⟨e1,h2,h3⟩
      | succ j=>exact e3 j o' (by simpa using iS)
    split at h
    · rename_i hw
      split at h
      · rename_i v h1
        exact key v h (fun _=>h1) fun hf=>by rw[hw] at hf; cases hf
      · cases h
    · rename_i hw
      exact key aV h (fun ht=>absurd ht hw) fun _=>rfl
theorem quiet_step {ρ:Operand→Option DV} {o:Oper} {S:ak} {v:DV} (h:bZ P ty aD call yf ρ o S=some v):ah P ty aD call yf ρ o S S.length=some (v,S):=by
  obtain⟨dst,op,type,pos,after,guard⟩:=o
  have gen:∀ {q:Option (DV×ak)},q.map (·.1)=some v→(∀ d S',q=some (d,S')→S'=S)→q=some (v,S):=by
    intro q hq hs
    simp only[Option.map_eq_some_iff] at hq
    obtain⟨⟨d,S'⟩,h1,rfl⟩:=hq
    rw[h1,hs d S' h1]
  have mp:∀ {β:Type} {q:Option β} {f:β→DV} {d:DV} {S':ak},q.map (fun c=>(f c,S))=some (d,S')→S'=S:=by
    intro β q f d S' hq
    simp only[Option.map_eq_some_iff,Prod.mk.injEq] at hq
    obtain⟨_,_,_,h⟩:=hq
    exact h.symm
  cases op<;>simp only[bZ] at h
  case call c =>
    obtain⟨callee,args,ats⟩:=c
    cases callee with
    | builtin b =>
      cases b<;>simp only at h<;>first | cases h | skip
      all_goals
        refine gen h fun d S' hq => ?_
        simp only[ah] at hq
        repeat' split at hq
        all_goals first | contradiction | exact mp (f:=id) hq | exact mp hq | (cases hq; rfl) | (cases hq; done) | skip
    | value f =>
      simp only at h
      split at h
      · rename_i g fs cs xs hf K1
        split at h
        · cases h
        rename_i hh
        split at h
        · rename_i hp
          simp only[ah,hf,K1,sK,hp,if_true,h]
        · cases h
      · cases h
    | invoke r m=>simp[ah] at h
  case buildSlice t n ps =>
    split at h
    · cases h
    · rename_i hh
      refine gen h fun d S' hq => ?_
      simp only[ah] at hq
      repeat' split at hq
      all_goals first | contradiction | (cases hq; first | rfl | contradiction)
  all_goals first
    | cases h
    | (refine gen h fun d S' hq => ?_
       simp only[ah] at hq
       repeat' split at hq
       all_goals first | contradiction | exact mp (f:=id) hq | exact mp hq | (cases hq; rfl) | (cases hq; done) | skip)
theorem ES {ρ ρ':Operand→Option DV} {o:Oper} {S:ak} (h:∀ a∈o.op.operands,ρ a=ρ' a):bZ P ty aD call yf ρ o S=bZ P ty aD call yf ρ' o S:=by
  have hs:=tH (P:=P) (ty:=ty) (aD:=aD) (call:=call) (yf:=yf) (S:=S) (ay:=S.length) h
  unfold bZ
  split<;>try rfl
  · rw[hs]
  · rename_i f args ats hop
    rw[hop] at h
    have h1:ρ f=ρ' f:=h f (by simp[Op.operands,Call.operands])
    have h2:=jd (ρ:=ρ) (ρ':=ρ') (l:=args.toList) fun a ha=>h a (by simp[Op.operands,Call.operands] at ha ⊢; exact .inr ha)
    rw[h1,h2]
  · rw[hs]
theorem Gv (hP:Plain P) (dc:gE P ty) (hc:gW P af call) (hi:vt P af aD) (Fh:vr P af yf) {ops:Array Oper} {b:Frame} {k:List Item} {cs:List Frame} (hk:b.kind ≠ .early) (Bv:iE ops (Region.before ops)=true)
    {env az:List DV} {a:Act} (h:lN P ty aD call yf ops x.S ops.toList env=some az) (hR:Rel x) (he:eR x env a.tmps)
    (hn:∀ y a',y.S=x.S→Rel y→bI x y→eR y az a'.tmps→a'.defers=a.defers→fH P af () (G (b.atR a' k) cs) y.w) (t:Nat):fH P af () (G (b.atR a (.inRegion ops (Region.linearise .any ops t)::k)) cs) x.w:=by
  have mc:=Ee Bv
  obtain⟨E,V,e1,e2,e3⟩:=D4 h
  have BI:∀ (j:Nat) (o:Oper),ops[j]? = some o→ops.toList[j]? = some o:=fun j o ho=>by simpa using ho
  have hS:HH ops V E:=fun j o ho=>(e3 j o (BI j o ho)).1
  refine qK mc (σ:=Act×Cx) (fun todo s=>s.2.S=x.S→Rel s.2→bI x s.2→s.1.defers=a.defers→fH P af () (G (b.atR s.1 (.inRegion ops todo::k)) cs) s.2.w)
    (fun L s=>∃ lR,eR s.2 lR s.1.tmps∧AB ops V L ops.size (E 0) lR) ?_ ?_ t (a,x) ⟨env,he,fun t => ?_⟩ rfl hR (bI.refl x) rfl
  · rintro L ⟨a1,y⟩ i o ⟨lR,tY,PJ⟩ tU ho hLi ql rest xB Xd Fs Le Fp
    simp only at tY Xd Fs Le Fp ⊢
    obtain⟨q1,q2⟩:=vI mc Bv hS tU PJ ho hLi ql
    have hw:=tC q1
    have O3:=uz tY ops o
    have X7:=Bh (V:=V) ho PJ q2
    by_cases TL:bC ops (E i) o=true
    · have hq:=(e3 i o (BI i o ho)).2.1 TL
      rw[← ES (Bf q1),← Xd] at hq
      refine LX hP dc hc hi Fh hk ho (by rw[O3,hw]; exact TL) Fs (.inl rfl) tY (quiet_step hq) fun z u zS zR zM zV => ?_
      have kB:=uj (tY.mono zM) (dst:=o.dst) zV
      exact xB (a1.put o.dst u,z) ⟨_,kB.1,X7⟩ (zS.trans Xd) zR (Le.trans zM) (kB.2.trans Fp)
    · have TM:bC ops (E i) o=false:=by simpa using TL
      have hv:=(e3 i o (BI i o ho)).2.2 TM
      have kB:=uj tY (dst:=o.dst) (d:=V i) (v:=undef) (by rw[hv]; exact .val rfl)
      exact dL hP (fun w=>⟨_,oT ho (by rw[O3,hw]; exact TM)⟩) (xB (a1.put o.dst undef,y) ⟨_,kB.1,X7⟩ Xd Fs Le (kB.2.trans Fp))
  · rintro L ⟨a1,y⟩ ⟨lR,tY,PJ⟩ di Xd Fs Le Fp
    have:lR=az:=by
      refine List.ext_getElem? fun t => ?_
      have hlen:E ops.size=az:=by simpa using e2
      rw[PJ t,← hlen,wL hS ops.size (Nat.le_refl _) t]
      congr 1
      funext d
      rw[ir (i:=ops.size) (Nat.le_refl _) fun j hj _=>by simp[di j hj,hj]]
    subst this
    exact dL hP (fun w=>⟨_,lW⟩) (hn y a1 Xd Fs Le tY Fp)
  · rw[e1]
    have:∀ n,js ops V (fun _=>false) t n=none:=by
      intro n
      induction n with
      | zero=>rfl
      | succ n ih=>unfold js; simp[ih]
    rw[this]
    simp
end Go.Di
end
section
namespace Go.Di
open Go Go.Conc Go.Co
open Go.ConcN (upd upd_same upd_ne)
variable {P:Program} {af:Machine→Trace→Prop} {ty:eS} {x:Cx} {aD:bq} {call:bg} {yf:dF}
def appW (w:Option (Nat×DB)) (S:ak):ak:=match w with
 | none=>S
 | some (i,b)=>S.set i b
theorem lB {S:ak} {i:Nat} (h:i<S.length) (b:DB):cW S i b=S.set i b:=by unfold cW; rw[if_pos h]
theorem eY {S:ak} {i:Nat} {b:DB} (h:S[i]? = some b):i<S.length:=(List.getElem?_eq_some_iff.1 h).1
def pL:Op→Prop
 | .alloc _ | .box .. | .makeMap .. | .load .. | .store .. | .lookup .. | .mapUpdate .. | .makeSlice .. | .buildSlice .. | .fieldAddr .. | .indexAddr .. => False
 | .call { callee := .builtin .append,.. }=>False
 | .call { callee := .builtin _,.. }=>True
 | .call _=>False
 | _=>True
theorem map_fst {β:Type} (q:Option β) (f:β→DV) (S T:ak):q.map (fun c=>(f c,S))=((q.map (fun c=>(f c,T))).map (·.1)).map (·,S):=by cases q<;>rfl
theorem yQ {ρ:Operand→Option DV} {o:Oper} (hop:pL o.op) (S:ak) (ay:Nat):ah P ty aD call yf ρ o S ay=((ah P ty aD call yf ρ o [] 0).map (·.1)).map (·,S):=by
 obtain⟨dst,op,type,pos,after,guard⟩:=o
 cases op<;>simp only[pL] at hop
 case call c =>
  obtain⟨callee,args,ats⟩:=c
  cases callee with
  | builtin b =>
   simp only[ah]
   generalize args.toList=l
   generalize ats.toList=m
   split
   ·split<;>first | rfl | exact map_fst (f:=id) _ S []
   ·exact hop.elim
   ·split<;>first | rfl | exact map_fst (f:=id) _ S []
   ·split<;>first | rfl | exact map_fst (f:=id) _ S []
   ·rfl
  | value f=>exact hop.elim
  | invoke r m=>exact hop.elim
 case makeFunc fn fs cs=>cases fn<;>simp only[ah]<;>(repeat' split)<;>rfl
 all_goals simp only[ah]
 all_goals (repeat' split)
 all_goals first
  | rfl
  | exact map_fst (f:=id) _ S []
  | exact map_fst _ _ S []
theorem yb {ρ:Operand→Option DV} {o:Oper} (hop:pL o.op) {S S':ak} {ay:Nat} {v:DV} (h:ah P ty aD call yf ρ o S ay=some (v,S')):S'=S∧∀ T qj,ah P ty aD call yf ρ o T qj=some (v,T):=by
 rw[yQ hop] at h
 simp only[Option.map_eq_some_iff,Prod.mk.injEq] at h
 obtain⟨d,h1,h2,h3⟩:=h
 refine⟨h3.symm,fun T qj => ?_⟩
 rw[yQ hop]
 simp only[Option.map_eq_some_iff,Prod.mk.injEq]
 exact⟨d,h1,h2,trivial⟩
structure Eff (P:Program) (ty:eS) (aD:bq) (call:bg) (yf:dF) (ρ:Operand→Option DV) (o:Oper) (S:ak) (ay:Nat) (v:DV) (S':ak) (f:cz) (F:List Nat) (w:Option (Nat×DB)):Prop where
 res:S'=appW w S
 BL:∀ i b,w=some (i,b)→i∈F∧f.wr=true∧i<S.length
 loc:∀ T,(F≠[]→T.length=S.length)→(∀ x∈F,T[x]? = S[x]?)→aB P ty aD call yf ρ o T ay=some (v,appW w T,f)
theorem Ki {S T:ak} {t:TypeId} {id off:Nat} (h:T[id]? = S[id]?):gY ty T t (.ptr id off)=gY ty S t (.ptr id off):=by
 unfold gY
 cases ty t with
 | none=>rfl
 | some d=>simp only[h]
theorem GG {S T:ak} {t:TypeId} {rows:List DV} {i off:Nat}:gY ty T t (.dB rows i off)=gY ty S t (.dB rows i off):=by unfold gY; cases ty t<;>rfl
theorem BS {S T:ak} {id n:Nat} (h:T[id]? = S[id]?):zB T id n=zB S id n:=by unfold zB; rw[h]
theorem GF {S T:ak} {t:TypeId} {id n off:Nat} (h:T[id]? = S[id]?):gY ty T t (.er id n off)=gY ty S t (.er id n off):=by
 unfold gY
 cases ty t with
 | none=>rfl
 | some d=>simp only[BS h]
theorem mN {ρ:Operand→Option DV} {dst:Option Tmp} {t type:TypeId} {a:Operand} {f:Nat} {pos:String} {after:Array Edge} {guard:Option (Nat×Bool)} {S S' T:ak} {ay:Nat} {v:DV} (hT:∀ id n off,ρ a=some (.er id n off)→T[id]? = S[id]?)
  (h:ah P ty aD call yf ρ ⟨dst,.fieldAddr t a f,type,pos,after,guard⟩ S ay=some (v,S')):S'=S∧∀ qj,ah P ty aD call yf ρ ⟨dst,.fieldAddr t a f,type,pos,after,guard⟩ T qj=some (v,T):=by
 simp only[ah] at h ⊢
 split at h
 ·rename_i hk ha
  split at h
  ·rename_i hf
   split at h
   ·rename_i hs
    cases h
    exact⟨rfl,fun _=>by simp only[hk,ha,hf,if_pos hs]⟩
   ·cases h
  ·cases h
 ·rename_i hk ha
  split at h
  ·rename_i hf
   split at h
   ·rename_i hs
    cases h
    exact⟨rfl,fun _=>by simp only[hk,ha,hf,if_pos hs]⟩
   ·cases h
  ·cases h
 ·rename_i hk ha
  split at h
  ·rename_i hf hop
   split at h
   ·rename_i hs
    cases h
    exact⟨rfl,fun _=>by simp only[hk,ha,hf,BS (hT _ _ _ ha),hop,if_pos hs]⟩
   ·cases h
  ·cases h
 ·cases h
theorem mL {ρ:Operand→Option DV} {dst:Option Tmp} {t type:TypeId} {a i:Operand} {pos:String} {after:Array Edge} {guard:Option (Nat×Bool)} {S S' T:ak} {ay:Nat} {v:DV} (hT:∀ id n ag,ρ a=some (.gQ id n ag)→T[id]? = S[id]?)
  (h:ah P ty aD call yf ρ ⟨dst,.indexAddr t a i,type,pos,after,guard⟩ S ay=some (v,S')):S'=S∧∀ qj,ah P ty aD call yf ρ ⟨dst,.indexAddr t a i,type,pos,after,guard⟩ T qj=some (v,T):=by
 simp only[ah] at h ⊢
 split at h
 ·rename_i hk ha hi
  split at h
  ·rename_i h0
   split at h
   ·rename_i r hr
    split at h
    ·rename_i hs
     cases h
     exact⟨rfl,fun _=>by simp only[hk,ha,hi,if_pos h0,hr,if_pos hs]⟩
    ·cases h
   ·cases h
  ·cases h
 ·rename_i hk ha hi
  split at h
  ·rename_i h0
   cases h
   exact⟨rfl,fun _=>by simp only[hk,ha,hi,if_pos h0]⟩
  ·cases h
 ·rename_i hk ha hi
  split at h
  ·rename_i h0
   cases h
   exact⟨rfl,fun _=>by simp only[hk,ha,hi,if_pos h0]⟩
  ·cases h
 ·rename_i hk ha hi
  split at h
  ·rename_i hop
   split at h
   ·rename_i h0
    cases h
    exact⟨rfl,fun _=>by simp only[hk,ha,hi,BS (hT _ _ _ ha),hop,if_pos h0]⟩
   ·cases h
  ·cases h
 ·cases h
theorem Bo {ρ:Operand→Option DV} {o:Oper} {t:TypeId} {n:Nat} {ps:Array (Nat×Operand)} {S S':ak} {ay:Nat} {v:DV} (ho:o.op = .buildSlice t n ps) (hh:ty.h o≠1)
  (h:ah P ty aD call yf ρ o S ay=some (v,S')):S'=S∧∀ (T:ak) (qj:Nat),ah P ty aD call yf ρ o T qj=some (v,T):=by
 simp only[ah,ho] at h ⊢
 split at h
 ·rename_i hk hl
  split at h
  ·rename_i he
   split at h
   ·rename_i hc
    split at h
    ·rename_i hf
     split at h
     ·rename_i hp
      cases h
      exact⟨rfl,fun T qj=>by simp only[if_pos hc,if_pos hp]⟩
     ·cases h
    ·cases h
   ·cases h
  ·cases h
 ·cases h
theorem E4 {S S':ak} {ay:Nat} {t:TypeId} {a b v:DV} (h:gq ty S ay t a b=some (v,S')) (hn:ay<S.length):∃ w,S'=appW w S∧(∀ i c,w=some (i,c)→(i=ay∨∃ r tk f,a = .sl r (some tk) f∧i=tk)∧i<S.length) ∧
  ∀ T:ak,T.length=S.length→(∀ r tk f,a = .sl r (some tk) f→T[tk]? = S[tk]?)→gq ty T ay t a b=some (v,appW w T):=by
 unfold gq at h ⊢
 split at h
 ·rename_i e s iO agg sz z rows tok full news zJ Ts Se
  split at h
  ·rename_i qm
   cases h
   exact⟨none,rfl,by simp,fun T _ _=>by simp only[qm,if_true]; rfl⟩
  ·rename_i qm
   split at h
   ·rename_i hte
    split at h
    ·rename_i hc
     cases tok with
     | none =>
      simp only at h
      split at h
      ·rename_i hf
       cases h
       refine⟨some (ay,.tail e s ((rows.length+news.length)*s)),lB hn _,fun i c hw => ?_,fun T hT _ => ?_⟩
       ·cases hw; exact⟨.inl rfl,hn⟩
       ·simp only[qm,hc,hf,if_true,Bool.false_eq_true,if_false]
        rw[lB (by omega)]
        rfl
      ·cases h
     | some tk =>
      simp only at h
      split at h
      ·rename_i e' s' n' hS
       split at h
       ·rename_i sr
        cases h
        refine⟨some (tk,.tail e s ((rows.length+news.length)*s)),rfl,fun i c hw => ?_,fun T hT hl => ?_⟩
        ·cases hw; exact⟨.inr ⟨rows,tk,full,rfl,rfl⟩,eY hS⟩
        ·have X4:T[tk]? = some (.tail e' s' n'):=(hl rows tk full rfl).trans hS
         simp only[qm,hc,X4,sr,if_true,Bool.false_eq_true,if_false]
         rfl
       ·cases h
      ·cases h
    ·cases h
   ·cases h
 ·cases h
theorem J6 {g:FuncId} {args:List DV} {S:ak} {i:Nat} {v:DV} {l:List DV} (h:vc call g args S=some (i,v,l)):i<S.length∧∀ T:ak,T[i]? = S[i]? → vc call g args T=some (i,v,l):=by
 unfold vc at h ⊢
 split at h
 ·rename_i j off rest
  split at h
  ·rename_i l0 hj
   split at h
   ·rename_i hc
    split at h
    ·rename_i v2 l' T2 kI
     split at h
     ·rename_i hq
      cases h
      refine⟨eY hj,fun T hT => ?_⟩
      rw[hj] at hT
      simp only[hT,if_pos hc,kI,if_pos hq]
     ·cases h
    ·cases h
   ·cases h
  ·cases h
 ·cases h
theorem M3 {ρ:Operand→Option DV} {o:Oper} {S S':ak} {ay:Nat} {v:DV} {f:cz} (h:aB P ty aD call yf ρ o S ay=some (v,S',f)) {F:List Nat} (hF:f.ids=some F):∃ w,Eff P ty aD call yf ρ o S ay v S' f F w:=by
 obtain⟨dst,op,type,pos,after,guard⟩:=o
 have plain:∀ (hop:pL op),(ah P ty aD call yf ρ ⟨dst,op,type,pos,after,guard⟩ S ay).map (fun r=>(r.1,r.2,(⟨some [],false⟩:cz)))=some (v,S',f)→(∀ T,aB P ty aD call yf ρ ⟨dst,op,type,pos,after,guard⟩ T ay=(ah P ty aD call yf ρ ⟨dst,op,type,pos,after,guard⟩ T ay).map (fun r=>(r.1,r.2,(⟨some [],false⟩:cz))))→∃ w,Eff P ty aD call yf ρ ⟨dst,op,type,pos,after,guard⟩ S ay v S' f F w:=by
  intro hop h1 h2
  simp only[Option.map_eq_some_iff,Prod.mk.injEq] at h1
  obtain⟨⟨d,S1⟩,h3,rfl,rfl,rfl⟩:=h1
  obtain⟨h4,h5⟩:=yb hop h3
  exact⟨none,h4,by simp,fun T _ _=>by rw[h2,h5 T ay]; rfl⟩
 cases op
 case alloc e =>
  simp only[aB] at h
  split at h
  ·rename_i hS
   have hlt:=eY hS
   simp only[ah] at h
   split at h
   ·rename_i hk
    cases h
    cases hF
    refine⟨some (ay,_),lB hlt _,fun i b hw=>by cases hw; exact⟨by simp,rfl,hlt⟩,fun T hT hx => ?_⟩
    have:=hx ay (by simp)
    have hl:=hT (by simp)
    simp only[aB,this,hS,ah,hk,Option.map_some]
    rw[lB (by omega)]
    rfl
   ·cases h
  ·cases h
 case box e a =>
  simp only[aB] at h
  split at h
  ·rename_i hS
   have hlt:=eY hS
   simp only[ah] at h
   split at h
   ·rename_i hk
    cases h
    cases hF
    refine⟨some (ay,_),lB hlt _,fun i b hw=>by cases hw; exact⟨by simp,rfl,hlt⟩,fun T hT hx => ?_⟩
    have:=hx ay (by simp)
    have hl:=hT (by simp)
    simp only[aB,this,hS,ah,hk,Option.map_some]
    rw[lB (by omega)]
    rfl
   ·cases h
  ·cases h
 case makeMap t r =>
  cases r with
  | some a =>
   simp only[aB] at h
   split at h
   ·simp[ah] at h
   ·cases h
  | none =>
   simp only[aB] at h
   split at h
   ·rename_i hS
    have hlt:=eY hS
    simp only[ah] at h
    cases h
    cases hF
    refine⟨some (ay,_),lB hlt _,fun i b hw=>by cases hw; exact⟨by simp,rfl,hlt⟩,fun T hT hx => ?_⟩
    have:=hx ay (by simp)
    have hl:=hT (by simp)
    simp only[aB,this,hS,ah,Option.map_some]
    rw[lB (by omega)]
    rfl
   ·cases h
 case store t a b =>
  simp only[aB] at h
  split at h
  ·rename_i id off ha
   simp only[ah,ha] at h
   split at h
   ·rename_i a' v' h1 h2
    cases h1
    unfold kM at h
    split at h
    ·rename_i td gf qi hk TX
     cases TX
     split at h
     ·rename_i l hl
      split at h
      ·rename_i hc
       simp only[Option.map_map,Option.map_eq_some_iff,Function.comp_apply,Prod.mk.injEq] at h
       obtain⟨l',h3,rfl,rfl,rfl⟩:=h
       cases hF
       refine⟨some (id,.cells l'),rfl,fun i b hw=>by cases hw; exact⟨by simp,rfl,eY hl⟩,fun T hT hx => ?_⟩
       have:=hx id (by simp)
       simp only[aB,ha,ah,h2,kM,hk,this,hl,hc,if_true,h3,Option.map_some]
       rfl
      ·cases h
     ·cases h
    ·rename_i TX; cases TX
    ·cases h
   ·cases h
  ·rename_i id n off ha
   simp only[ah,ha] at h
   split at h
   ·rename_i a' v' h1 h2
    cases h1
    unfold kM at h
    split at h
    ·rename_i TX; cases TX
    ·rename_i td gf n' qi hk TX
     cases TX
     split at h
     ·rename_i e s l hop
      have hl:=(iJ hop).1
      split at h
      ·rename_i hc
       simp only[Option.map_map,Option.map_eq_some_iff,Function.comp_apply,Prod.mk.injEq] at h
       obtain⟨l',h3,rfl,rfl,rfl⟩:=h
       cases hF
       refine⟨some (id,.op e s l' false),rfl,fun i b hw=>by cases hw; exact⟨by simp,rfl,eY hl⟩,fun T hT hx => ?_⟩
       have:=hx id (by simp)
       simp only[aB,ha,ah,h2,kM,hk,BS this,hop,hc,if_true,h3,Option.map_some]
       rfl
      ·cases h
     ·cases h
    ·cases h
   ·cases h
  ·cases h
 case makeSlice t a b=>simp only[aB] at h; cases h
 case buildSlice t n ps =>
  simp only[aB] at h
  split at h
  ·cases h
  ·rename_i hh
   simp only[Option.map_eq_some_iff,Prod.mk.injEq] at h
   obtain⟨⟨d,S1⟩,h3,rfl,rfl,rfl⟩:=h
   cases hF
   obtain⟨h4,h5⟩:=Bo rfl hh h3
   refine⟨none,h4,by simp,fun T hT hx => ?_⟩
   simp only[aB,h5 T ay,Option.map_some]
   rfl
 case fieldAddr t a f' =>
  simp only[aB] at h
  split at h
  ·rename_i id n off ha
   simp only[Option.map_eq_some_iff,Prod.mk.injEq] at h
   obtain⟨⟨d,S1⟩,h3,rfl,rfl,rfl⟩:=h
   cases hF
   refine⟨none,(mN (T:=S) (fun _ _ _ _=>rfl) h3).1,by simp,fun T hT hx => ?_⟩
   have h5:=(mN (T:=T) (fun gf n' qi he=>by rw[ha] at he; cases he; exact hx id (by simp)) h3).2 ay
   simp only[aB,ha,h5,Option.map_some]
   rfl
  ·rename_i hno
   simp only[Option.map_eq_some_iff,Prod.mk.injEq] at h
   obtain⟨⟨d,S1⟩,h3,rfl,rfl,rfl⟩:=h
   cases hF
   refine⟨none,(mN (T:=S) (fun _ _ _ _=>rfl) h3).1,by simp,fun T hT hx => ?_⟩
   have h5:=(mN (T:=T) (fun gf n' qi he=>absurd he (hno _ _ _)) h3).2 ay
   simp only[aB,h5,Option.map_some]
   rfl
 case indexAddr t a i =>
  simp only[aB] at h
  split at h
  ·rename_i id n ag ha
   simp only[Option.map_eq_some_iff,Prod.mk.injEq] at h
   obtain⟨⟨d,S1⟩,h3,rfl,rfl,rfl⟩:=h
   cases hF
   refine⟨none,(mL (T:=S) (fun _ _ _ _=>rfl) h3).1,by simp,fun T hT hx => ?_⟩
   have h5:=(mL (T:=T) (fun gf n' qi he=>by rw[ha] at he; cases he; exact hx id (by simp)) h3).2 ay
   simp only[aB,ha,h5,Option.map_some]
   rfl
  ·rename_i hno
   simp only[Option.map_eq_some_iff,Prod.mk.injEq] at h
   obtain⟨⟨d,S1⟩,h3,rfl,rfl,rfl⟩:=h
   cases hF
   refine⟨none,(mL (T:=S) (fun _ _ _ _=>rfl) h3).1,by simp,fun T hT hx => ?_⟩
   have h5:=(mL (T:=T) (fun gf n' qi he=>absurd he (hno _ _ _)) h3).2 ay
   simp only[aB,h5,Option.map_some]
   rfl
 case load t a =>
  simp only[aB] at h
  split at h
  ·rename_i id off ha
   simp only[ah,ha] at h
   simp only[Option.map_map,Option.map_eq_some_iff,Function.comp_apply,Prod.mk.injEq] at h
   obtain⟨d,h3,rfl,rfl,rfl⟩:=h
   cases hF
   refine⟨none,rfl,by simp,fun T hT hx => ?_⟩
   have:=hx id (by simp)
   simp only[aB,ha,ah,Ki this,h3,Option.map_some]
   rfl
  ·rename_i id n off ha
   simp only[ah,ha] at h
   simp only[Option.map_map,Option.map_eq_some_iff,Function.comp_apply,Prod.mk.injEq] at h
   obtain⟨d,h3,rfl,rfl,rfl⟩:=h
   cases hF
   refine⟨none,rfl,by simp,fun T hT hx => ?_⟩
   have:=hx id (by simp)
   simp only[aB,ha,ah,GF this,h3,Option.map_some]
   rfl
  ·rename_i hno YE
   simp only[ah] at h
   split at h
   ·rename_i a' ha
    simp only[Option.map_map,Option.map_eq_some_iff,Function.comp_apply,Prod.mk.injEq] at h
    obtain⟨d,h3,rfl,rfl,rfl⟩:=h
    cases hF
    refine⟨none,rfl,by simp,fun T hT hx => ?_⟩
    have hld:gY ty T t a'=some d:=by
     cases a' with
     | ptr id off=>exact absurd ha (hno id off)
     | er id n off=>exact absurd ha (YE id n off)
     | dB rows i off=>rw[← h3]; exact GG
     | _=>unfold gY at h3; split at h3<;>simp_all
    cases a' with
    | ptr id off=>exact absurd ha (hno id off)
    | er id n off=>exact absurd ha (YE id n off)
    | _=>simp only[aB,ha,ah,hld,Option.map_some]; rfl
   ·cases h
 case lookup t m k ok =>
  simp only[aB] at h
  split at h
  ·rename_i id ha
   simp only[ah,ha] at h
   split at h
   ·rename_i kv hm hk
    cases hm
    split at h
    ·rename_i es hS
     simp only[Option.map_map,Option.map_eq_some_iff,Function.comp_apply,Prod.mk.injEq] at h
     obtain⟨d,h3,rfl,rfl,rfl⟩:=h
     cases hF
     refine⟨none,rfl,by simp,fun T hT hx => ?_⟩
     have:=hx id (by simp)
     simp only[aB,ha,ah,hk,this,hS,h3,Option.map_some]
     rfl
    ·cases h
   ·cases h
  ·cases h
 case mapUpdate t m k a =>
  simp only[aB] at h
  split at h
  ·rename_i id ha
   simp only[ah,ha] at h
   split at h
   ·rename_i gf kv vv hm hk hv
    cases hm
    split at h
    ·rename_i es hS
     split at h
     ·rename_i r hr
      simp only[Option.map_map,Option.map_eq_some_iff,Function.comp_apply,Prod.mk.injEq] at h
      obtain⟨es',h3,rfl,rfl,rfl⟩:=h
      cases hF
      refine⟨some (id,.map es'),rfl,fun i b hw=>by cases hw; exact⟨by simp,rfl,eY hS⟩,fun T hT hx => ?_⟩
      have:=hx id (by simp)
      simp only[aB,ha,ah,hk,hv,this,hS,hr,h3,Option.map_some]
      rfl
     ·cases h
    ·cases h
   ·cases h
  ·cases h
 case call c =>
  obtain⟨callee,args,ats⟩:=c
  cases callee with
  | invoke r m=>simp[aB,ah] at h
  | value g =>
   simp only[aB] at h
   split at h
   ·rename_i g' fs cs xs hf K1
    split at h
    ·cases h
    rename_i hh
    split at h
    ·rename_i hp
     simp only[Option.map_eq_some_iff,Prod.mk.injEq] at h
     obtain⟨d,h3,rfl,rfl,rfl⟩:=h
     cases hF
     exact⟨none,rfl,by simp,fun T hT hx=>by simp only[aB,hf,K1,if_neg hh,hp,if_true,h3,Option.map_some]; rfl⟩
    ·rename_i hp
     split at h
     ·rename_i i v1 l1 ho
      cases h
      cases hF
      obtain⟨hi,hT⟩:=J6 ho
      exact⟨some (i,.cells l1),rfl,fun _ _ hw=>by cases hw; exact⟨by simp,rfl,hi⟩,fun T _ hx=>by simp only[aB,hf,K1,if_neg hh,if_neg hp,hT T (hx i (by simp))]; rfl⟩
     ·simp only[Option.map_eq_some_iff,Prod.mk.injEq] at h
      obtain⟨r,h3,rfl,rfl,rfl⟩:=h
      cases hF
   ·simp only[Option.map_eq_some_iff,Prod.mk.injEq] at h
    obtain⟨r,h3,rfl,rfl,rfl⟩:=h
    cases hF
   ·cases h
  | builtin b =>
   by_cases hb:b = .append
   ·subst hb
    simp only[aB] at h
    split at h
    ·cases h
    rename_i hh
    split at h
    ·cases h
    rename_i hsl
    have YB:∀ a da,args.toList[0]? = some a→ρ a=some da→xA (some da)=false:=fun a da h0 h1=>by
     have:args[0]? = some a:=by rw[← Array.getElem?_toList]; exact h0
     rw[this] at hsl
     rw[← h1]
     simpa using hsl
    have hstep:∀ T:ak,ah P ty aD call yf ρ ⟨dst,.call ⟨.builtin .append,args,ats⟩,type,pos,after,guard⟩ T ay=match args.toList,ats.toList with
      | [x,y],[t,u]=>if t=u then match ρ x,ρ y with
        | some a,some b=>gq ty T ay t a b
        | _,_=>none
       else none
      | _,_=>none:=fun T=>by
     simp only[ah]
     generalize args.toList=l at YB
     generalize ats.toList=m
     match l,m with
     | [x,y],[t,u] =>
      dsimp only
      cases hx:ρ x with
      | none=>rfl
      | some a =>
       cases ρ y with
       | none=>rfl
       | some b =>
        have h0:=YB x a rfl hx
        cases a<;>first | (simp[xA] at h0; done) | rfl | (dsimp only; split<;>first | exact absurd ‹_› hh | rfl)
     | [],_=>rfl
     | [_],_=>rfl
     | _::_::_::_,_=>rfl
     | [_,_],[]=>rfl
     | [_,_],[_]=>rfl
     | [_,_],_::_::_::_=>rfl
    have main:∀ (r:DV×ak) (F:List Nat),ah P ty aD call yf ρ ⟨dst,.call ⟨.builtin .append,args,ats⟩,type,pos,after,guard⟩ S ay=some r→S[ay]? = some .none→ay∈F→(∀ rw tk fl,(args[0]?).bind ρ=some (.sl rw (some tk) fl)→tk∈F)→(∀ T:ak,T[ay]? = some .none→aB P ty aD call yf ρ ⟨dst,.call ⟨.builtin .append,args,ats⟩,type,pos,after,guard⟩ T ay=(ah P ty aD call yf ρ ⟨dst,.call ⟨.builtin .append,args,ats⟩,type,pos,after,guard⟩ T ay).map (fun r=>(r.1,r.2,(⟨some F,true⟩:cz)))) →
      ∃ w,Eff P ty aD call yf ρ ⟨dst,.call ⟨.builtin .append,args,ats⟩,type,pos,after,guard⟩ S ay r.1 r.2 ⟨some F,true⟩ F w:=by
     intro r F hr hS hnF htk Bv
     rw[hstep] at hr
     split at hr
     ·rename_i a b t u iV Ly
      split at hr
      ·rename_i K4
       split at hr
       ·rename_i da db ha j9
        obtain⟨w,w1,w2,w3⟩:=E4 (v:=r.1) (S':=r.2) hr (eY hS)
        have zF:(args[0]?).bind ρ=some da:=by
         have:args[0]? = some a:=by rw[← Array.getElem?_toList,iV]; rfl
         rw[this]; exact ha
        refine⟨w,w1,fun i c hw => ?_,fun T hT hx => ?_⟩
        ·obtain⟨h1,h2⟩:=w2 i c hw
         rcases h1 with rfl | ⟨Xw,tk,fl,rfl,rfl⟩
         ·exact⟨hnF,rfl,h2⟩
         ·exact⟨htk _ _ _ zF,rfl,h2⟩
        ·have hl:=hT (List.ne_nil_of_mem hnF)
         have X4:=(hx ay hnF).trans hS
         have:=w3 T hl fun Xw tk fl qg=>hx tk (htk Xw tk fl (by rw[zF,qg]))
         rw[Bv T X4,hstep,iV,Ly]
         simp only[if_pos K4,ha,j9,this,Option.map_some]
       ·cases hr
      ·cases hr
     ·cases hr
    split at h
    ·rename_i Xw tk fl hS j9
     simp only[Option.map_eq_some_iff,Prod.mk.injEq] at h
     obtain⟨r,h3,rfl,rfl,rfl⟩:=h
     cases hF
     exact main r [tk,ay] h3 hS (by simp) (fun _ _ _ he=>by rw[j9] at he; cases he; simp) fun T hT=>by simp only[aB,if_neg hh,hT,j9,xA,Bool.false_eq_true,if_false]
    ·rename_i hS hno
     simp only[Option.map_eq_some_iff,Prod.mk.injEq] at h
     obtain⟨r,h3,rfl,rfl,rfl⟩:=h
     cases hF
     refine main r [ay] h3 hS (by simp) (fun Xw tk fl he=>absurd he (hno Xw tk fl)) fun T hT => ?_
     simp only[aB,if_neg hh,if_neg hsl,hT]
    ·cases h
   ·have hop:pL (.call ⟨.builtin b,args,ats⟩):=by cases b<;>first | trivial | exact absurd rfl hb
    have Bv:∀ T,aB P ty aD call yf ρ ⟨dst,.call ⟨.builtin b,args,ats⟩,type,pos,after,guard⟩ T ay=(ah P ty aD call yf ρ ⟨dst,.call ⟨.builtin b,args,ats⟩,type,pos,after,guard⟩ T ay).map (fun r=>(r.1,r.2,(⟨some [],false⟩:cz))):=fun T=>by
     cases b<;>first | rfl | exact absurd rfl hb
    rw[Bv] at h
    exact plain hop h Bv
 all_goals exact plain trivial h fun T=>rfl
end Go.Di
end
section
namespace Go.Di
open Go Go.Conc Go.Co
open Go.ConcN (upd upd_same upd_ne)
variable {P:Program} {af:Machine→Trace→Prop} {ty:eS} {x:Cx} {aD:bq} {call:bg} {yf:dF}
theorem CH {ρ ρ':Operand→Option DV} {o:Oper} {S:ak} {ay:Nat} (h:∀ a∈o.op.operands,ρ a=ρ' a):aB P ty aD call yf ρ o S ay=aB P ty aD call yf ρ' o S ay:=by
 have hs:=tH (P:=P) (ty:=ty) (aD:=aD) (call:=call) (yf:=yf) (S:=S) (ay:=ay) h
 unfold aB
 split
 ·rw[hs]
 ·rw[hs]
 ·rw[hs]
 ·rename_i t a v hop
  rw[hop] at h
  rw[h a (by simp[Op.operands]),hs]
 ·rename_i t a v hop
  rw[hop] at h
  rw[h a (by simp[Op.operands]),hs]
 ·rename_i t a v hop
  rw[hop] at h
  rw[h a (by simp[Op.operands]),hs]
 ·rw[hs]
 ·rfl
 ·rename_i t m k ok hop
  rw[hop] at h
  rw[h m (by simp[Op.operands]),hs]
 ·rename_i t m k v hop
  rw[hop] at h
  rw[h m (by simp[Op.operands]),hs]
 ·rename_i t a hop
  rw[hop] at h
  rw[h a (by simp[Op.operands]),hs]
 ·rename_i args ats hop
  rw[hop] at h
  have:(args[0]?).bind ρ=(args[0]?).bind ρ':=by
   cases ha:args[0]? with
   | none=>rfl
   | some a=>exact h a (by simp[Op.operands,Call.operands,Array.mem_of_getElem? ha])
  rw[this,hs]
 ·rename_i f args ats hop
  rw[hop] at h
  have h1:ρ f=ρ' f:=h f (by simp[Op.operands,Call.operands])
  have h2:=jd (ρ:=ρ) (ρ':=ρ') (l:=args.toList) fun a ha=>h a (by simp[Op.operands,Call.operands] at ha ⊢; exact .inr ha)
  rw[h1,h2]
 ·rw[hs]
def R3:Op→Prop
 | .call { callee := .value _,.. }=>False
 | _=>True
theorem cE {c1 c2:bg} {ρ:Operand→Option DV} {o:Oper} {S:ak} {ay:Nat} (h:R3 o.op):ah P ty aD c1 yf ρ o S ay=ah P ty aD c2 yf ρ o S ay:=by
 obtain⟨dst,op,type,pos,after,guard⟩:=o
 cases op
 case call c =>
  obtain⟨callee,args,ats⟩:=c
  cases callee with
  | value f=>exact h.elim
  | builtin b=>simp only[ah]
  | invoke r m=>simp only[ah]
 case makeFunc fn a b=>cases fn<;>simp only[ah]
 case makeMap t r=>cases r<;>simp only[ah]
 all_goals first
  | rfl
  | simp only[ah]
theorem RJ {ρ:Operand→Option DV} {o:Oper} {S S':ak} {ay:Nat} {v:DV} {f:cz} (h:aB P ty aD call yf ρ o S ay=some (v,S',f)):∃ qj,Ai S qj∧ah P ty aD (HD call) yf ρ o S qj=some (v,S'):=by
 obtain⟨dst,op,type,pos,after,guard⟩:=o
 have mp:∀ {q:Option (DV×ak)} {g:DV×ak→cz},q.map (fun r=>(r.1,r.2,g r))=some (v,S',f)→q=some (v,S'):=by
  intro q g hq
  simp only[Option.map_eq_some_iff,Prod.mk.injEq] at hq
  obtain⟨⟨a,b⟩,h1,h2,h3,-⟩:=hq
  rw[h1,← h2,← h3]
 have plain:∀ {q:ak→Nat→Option (DV×ak)},(∀ n m,q S n=q S m)→q S ay=some (v,S')→∃ qj,Ai S qj∧q S qj=some (v,S'):=fun hq h=>⟨S.length,.inl rfl,by rw[hq _ ay]; exact h⟩
 cases op
 case alloc e =>
  simp only[aB] at h
  split at h
  ·rename_i hS; exact⟨ay,.inr hS,(cE (c2:=call) (by trivial)).trans (mp h)⟩
  ·cases h
 case box e a =>
  simp only[aB] at h
  split at h
  ·rename_i hS; exact⟨ay,.inr hS,(cE (c2:=call) (by trivial)).trans (mp h)⟩
  ·cases h
 case makeMap e a =>
  simp only[aB] at h
  split at h
  ·rename_i hS; exact⟨ay,.inr hS,(cE (c2:=call) (by trivial)).trans (mp h)⟩
  ·cases h
 case store t a b =>
  simp only[aB] at h
  split at h
  ·exact⟨S.length,.inl rfl,(cE (c2:=call) (by trivial)).trans (mp h)⟩
  ·exact⟨S.length,.inl rfl,(cE (c2:=call) (by trivial)).trans (mp h)⟩
  ·cases h
 case makeSlice t a b=>simp only[aB] at h; cases h
 case buildSlice t n ps =>
  simp only[aB] at h
  split at h
  ·cases h
  ·rename_i hh
   obtain⟨h1,h2⟩:=Bo rfl hh (mp h)
   subst h1
   exact⟨S'.length,.inl rfl,(cE (c2:=call) (by trivial)).trans (h2 _ _)⟩
 case fieldAddr t a i =>
  simp only[aB] at h
  split at h
  all_goals
   obtain⟨h1,h2⟩:=mN (T:=S) (fun _ _ _ _=>rfl) (mp h)
   subst h1
   exact⟨S'.length,.inl rfl,(cE (c2:=call) (by trivial)).trans (h2 _)⟩
 case indexAddr t a i =>
  simp only[aB] at h
  split at h
  all_goals
   obtain⟨h1,h2⟩:=mL (T:=S) (fun _ _ _ _=>rfl) (mp h)
   subst h1
   exact⟨S'.length,.inl rfl,(cE (c2:=call) (by trivial)).trans (h2 _)⟩
 case load t a =>
  simp only[aB] at h
  split at h
  ·exact⟨S.length,.inl rfl,(cE (c2:=call) (by trivial)).trans (mp h)⟩
  ·exact⟨S.length,.inl rfl,(cE (c2:=call) (by trivial)).trans (mp h)⟩
  ·exact⟨S.length,.inl rfl,(cE (c2:=call) (by trivial)).trans (mp h)⟩
 case lookup t m k ok =>
  simp only[aB] at h
  split at h
  ·exact⟨S.length,.inl rfl,(cE (c2:=call) (by trivial)).trans (mp h)⟩
  ·cases h
 case mapUpdate t m k a =>
  simp only[aB] at h
  split at h
  ·exact⟨S.length,.inl rfl,(cE (c2:=call) (by trivial)).trans (mp h)⟩
  ·cases h
 case call c =>
  obtain⟨callee,args,ats⟩:=c
  cases callee with
  | invoke r m=>simp[aB,ah] at h
  | value g =>
   simp only[aB] at h
   refine⟨S.length,.inl rfl,?_⟩
   simp only[ah]
   split at h
   ·rename_i g' fs cs xs hf K1
    split at h
    ·cases h
    rename_i hh
    simp only[sK]
    split at h
    ·rename_i hp
     simp only[Option.map_eq_some_iff,Prod.mk.injEq] at h
     obtain⟨d,h3,rfl,rfl,-⟩:=h
     rw[if_pos hp,h3]
    ·rename_i hp
     rw[if_neg hp]
     unfold HD
     split at h
     ·rename_i ho
      cases h
      rfl
     ·exact mp h
   ·exact mp h
   ·cases h
  | builtin b =>
   by_cases hb:b = .append
   ·subst hb
    simp only[aB] at h
    split at h
    ·cases h
    split at h
    ·cases h
    split at h
    ·rename_i hS _; exact⟨ay,.inr hS,(cE (c2:=call) (by trivial)).trans (mp h)⟩
    ·rename_i hS _; exact⟨ay,.inr hS,(cE (c2:=call) (by trivial)).trans (mp h)⟩
    ·cases h
   ·have Bv:aB P ty aD call yf ρ ⟨dst,.call ⟨.builtin b,args,ats⟩,type,pos,after,guard⟩ S ay=(ah P ty aD call yf ρ ⟨dst,.call ⟨.builtin b,args,ats⟩,type,pos,after,guard⟩ S ay).map (fun r=>(r.1,r.2,(⟨some [],false⟩:cz))):=by
     cases b<;>first | rfl | exact absurd rfl hb
    rw[Bv] at h
    have hop:pL (.call ⟨.builtin b,args,ats⟩):=by cases b<;>first | trivial | exact absurd rfl hb
    obtain⟨h1,h2⟩:=yb hop (mp h)
    subst h1
    exact⟨S'.length,.inl rfl,(cE (c2:=call) (by trivial)).trans (h2 _ _)⟩
 all_goals
  simp only[aB] at h
  obtain⟨h1,h2⟩:=yb (by trivial) (mp h)
  subst h1
  exact⟨S'.length,.inl rfl,(cE (c2:=call) (by trivial)).trans (h2 _ _)⟩
theorem M0 {ρ:Operand→Option DV} {o:Oper} {S S':ak} {ay:Nat} {v:DV} {f:cz} (h:aB P ty aD call yf ρ o S ay=some (v,S',f)) (hf:f.ids=none):f.wr=true:=by
 have mp:∀ {q:Option (DV×ak)} {l:List Nat} {b:Bool},q.map (fun r=>(r.1,r.2,(⟨some l,b⟩:cz)))=some (v,S',f)→False:=by
  intro q l b hq
  simp only[Option.map_eq_some_iff,Prod.mk.injEq] at hq
  obtain⟨_,-,-,-,rfl⟩:=hq
  cases hf
 have mt:∀ {q:Option (DV×ak)},q.map (fun r=>(r.1,r.2,(⟨none,true⟩:cz)))=some (v,S',f)→f.wr=true:=by
  intro q hq
  simp only[Option.map_eq_some_iff,Prod.mk.injEq] at hq
  obtain⟨_,-,-,-,rfl⟩:=hq
  rfl
 unfold aB at h
 split at h
 case h_13 =>
  split at h
  ·simp only at h
   split at h
   ·cases h
   split at h
   ·simp only[Option.map_eq_some_iff,Prod.mk.injEq] at h
    obtain⟨_,-,-,-,rfl⟩:=h
    cases hf
   ·split at h
    ·cases h; cases hf
    ·exact mt h
  ·exact mt h
  ·cases h
 all_goals (repeat' split at h)
 all_goals first
  | exact(mp h).elim
  | cases h
def touch (F:Nat→cz) (j id:Nat):Bool:=(F j).wr&&match (F j).ids with
 | none=>true
 | some l=>l.contains id
def top (F:Nat→cz) (j:Nat):Bool:=(F j).wr&&(F j).ids.isNone
def jv {α:Type} (W:Nat→Bool) (R:Nat→α) (d:α) (L:Nat→Bool):Nat→α
 | 0=>d
 | n+1=>if L n&&W n then R n else jv W R d L n
theorem eU {α:Type} {W:Nat→Bool} {R:Nat→α} {d:α} {L:Nat→Bool} {i:Nat}:∀ {n:Nat},i≤n→(∀ j,j<n→W j=true→(L j=true↔j<i))→jv W R d L n=jv W R d (fun _=>true) i
 | 0,h,_=>by
  have:i=0:=by omega
  subst this; rfl
 | n+1,h,hj=>by
  by_cases kZ:i=n+1
  ·subst kZ
   unfold jv
   by_cases hd:W n=true
   ·have:=(hj n (by omega) hd).2 (by omega)
    simp only[this,hd,Bool.and_self,if_true]
   ·simp only[Bool.and_eq_true,hd,and_false,if_false,Bool.false_eq_true]
    exact eU (Nat.le_refl _) fun j h1 h2=>⟨fun _=>h1,fun _=>(hj j (Nat.lt_succ_of_lt h1) h2).2 (Nat.lt_succ_of_lt h1)⟩
  ·have hle:i≤n:=by omega
   rw[← eU hle fun j h1 h2=>hj j (by omega) h2]
   conv=>lhs; unfold jv
   by_cases hd:W n=true
   ·have:L n=false:=by
     cases hLn:L n with
     | false=>rfl
     | true=>have:=(hj n (by omega) hd).1 hLn; omega
    rw[this]
    simp
   ·simp[hd]
theorem jC {α:Type} {W:Nat→Bool} {R:Nat→α} {d:α} {L:Nat→Bool} {i:Nat} (hd:W i=false):∀ n,jv W R d (upd L i true) n=jv W R d L n
 | 0=>rfl
 | n+1=>by
  unfold jv
  rw[jC hd n]
  by_cases h:n=i
  ·subst h; simp[hd]
  ·rw[upd_ne _ _ h]
theorem rO {α:Type} {W:Nat→Bool} {R:Nat→α} {d:α} {i:Nat} (hd:W i=true):jv W R d (fun _=>true) (i+1)=R i:=by unfold jv; simp[hd]
structure Mo (P:Program) (ty:eS) (aD:bq) (call:bg) (yf:dF) (ops:Array Oper) (n0:Nat) (E:Nat→List DV) (V:Nat→DV) (M:Nat→ak) (F:Nat→cz):Prop where
 env:HH ops V E
 yes:∀ j o,ops[j]? = some o→bC ops (E j) o=true→aB P ty aD call yf (fM (E j)) o (M j) (n0+j)=some (V j,M (j+1),F j)
 no:∀ j o,ops[j]? = some o→bC ops (E j) o=false→V j=aV∧M (j+1)=M j∧F j=⟨some [],false⟩
theorem AO {ops:Array Oper} {n0:Nat}:∀ {r:List Oper} {i:Nat} {env az:List DV} {S S':ak} {fs:List cz},nO P ty aD call yf ops n0 r i env S=some (az,S',fs) →
  ∃ (E:Nat→List DV) (V:Nat→DV) (M:Nat→ak) (F:Nat→cz),E 0=env∧E r.length=az∧M 0=S∧M r.length=S'∧(fs.length=r.length∧∀ j,j<r.length→fs[j]? = some (F j)) ∧
   ∀ j o,r[j]? = some o→E (j+1)=gC (E j) o.dst (V j)∧(bC ops (E j) o=true→aB P ty aD call yf (fM (E j)) o (M j) (n0+(i+j))=some (V j,M (j+1),F j))∧(bC ops (E j) o=false→V j=aV∧M (j+1)=M j∧F j=⟨some [],false⟩)
 | [],i,env,az,S,S',fs,h=>by
  simp only[nO,Option.some.injEq,Prod.mk.injEq] at h
  obtain⟨rfl,rfl,rfl⟩:=h
  exact⟨fun _=>env,fun _=>aV,fun _=>S,fun _=>⟨some [],false⟩,rfl,rfl,rfl,rfl,⟨rfl,by simp⟩,by simp⟩
 | o::r,i,env,az,S,S',fs,h=>by
  unfold nO at h
  have key:∀ v S1 f mm qP LB,nO P ty aD call yf ops n0 r (i+1) (gC env o.dst v) S1=some (mm,qP,LB)→(bC ops env o=true→aB P ty aD call yf (fM env) o S (n0+i)=some (v,S1,f))→(bC ops env o=false→v=aV∧S1=S∧f=⟨some [],false⟩)→some (mm,qP,f::LB)=some (az,S',fs) →
    ∃ (E:Nat→List DV) (V:Nat→DV) (M:Nat→ak) (F:Nat→cz),E 0=env∧E (o::r).length=az∧M 0=S∧M (o::r).length=S'∧(fs.length=(o::r).length∧∀ j,j<(o::r).length→fs[j]? = some (F j)) ∧
     ∀ j o',(o::r)[j]? = some o'→E (j+1)=gC (E j) o'.dst (V j)∧(bC ops (E j) o'=true→aB P ty aD call yf (fM (E j)) o' (M j) (n0+(i+j))=some (V j,M (j+1),F j))∧(bC ops (E j) o'=false→V j=aV∧M (j+1)=M j∧F j=⟨some [],false⟩):=by
   intro v S1 f mm qP LB h1 h2 h3 h4
   cases h4
   obtain⟨E,V,M,F,e1,e2,e3,e4,e5,e6⟩:=AO h1
   refine⟨fun n=>match n with | 0=>env | n+1=>E n,fun n=>match n with | 0=>v | n+1=>V n,fun n=>match n with | 0=>S | n+1=>M n,fun n=>match n with | 0=>f | n+1=>F n,rfl,by simpa using e2,rfl,by simpa using e4,⟨by simp[e5.1],fun j hj => ?_⟩,fun j o' iS => ?_⟩
   ·cases j with
    | zero=>rfl
    | succ j=>simpa using e5.2 j (by simpa using hj)
   ·cases j with
    | zero =>
     simp only[List.getElem?_cons_zero,Option.some.injEq] at iS
     subst iS
     exact⟨e1,fun hw=>by have:=h2 hw; rw[← e3] at this; exact this,fun hw=>by have:=h3 hw; rw[← e3] at this; exact this⟩
    | succ j =>
     have:=e6 j o' (by simpa using iS)
     have e:i+(j+1)=i+1+j:=by omega
     rw[e]
     exact this
  split at h
  ·rename_i hw
   split at h
   ·rename_i v S1 f h1
    split at h
    ·rename_i mm qP LB h2
     exact key v S1 f _ _ _ h2 (fun _=>h1) (fun hf=>by rw[hw] at hf; cases hf) h
    ·cases h
   ·cases h
  ·rename_i hw
   split at h
   ·rename_i mm qP LB h2
    exact key aV S ⟨some [],false⟩ _ _ _ h2 (fun ht=>absurd ht hw) (fun _=>⟨rfl,rfl,rfl⟩) h
   ·cases h
theorem VP {ops:Array Oper} {n0:Nat} {env az:List DV} {S S':ak} {fs:List cz} (h:nO P ty aD call yf ops n0 ops.toList 0 env S=some (az,S',fs)) :
  ∃ (E:Nat→List DV) (V:Nat→DV) (M:Nat→ak) (F:Nat→cz),Mo P ty aD call yf ops n0 E V M F∧E 0=env∧E ops.size=az∧M 0=S∧M ops.size=S'∧∀ j,j<ops.size→fs[j]? = some (F j):=by
 obtain⟨E,V,M,F,e1,e2,e3,e4,e5,e6⟩:=AO h
 refine⟨E,V,M,F,⟨fun j o ho=>(e6 j o (by simpa using ho)).1,fun j o ho hw => ?_,fun j o ho hw=>(e6 j o (by simpa using ho)).2.2 hw⟩,e1,by simpa using e2,e3,by simpa using e4,fun j hj=>e5.2 j (by simpa using hj)⟩
 have:=(e6 j o (by simpa using ho)).2.1 hw
 simpa using this
theorem wW {w:Option (Nat×DB)} {S:ak} (h:∀ i b,w=some (i,b)→i<S.length) (id:Nat):(appW w S)[id]? = match w with | some (i,b)=>if id=i then some b else S[id]? | none=>S[id]? := by
 cases w with
 | none=>rfl
 | some p =>
  obtain⟨i,b⟩:=p
  have hlt:=h i b rfl
  simp only[appW]
  rw[List.getElem?_set]
  by_cases h1:id=i
  ·subst h1; simp[hlt]
  ·rw[if_neg (Ne.symm h1),if_neg h1]
theorem IQ {w:Option (Nat×DB)} {S:ak}:(appW w S).length=S.length:=by cases w<;>simp[appW]
theorem run_store {ops:Array Oper} {n0:Nat} {E:Nat→List DV} {V:Nat→DV} {M:Nat→ak} {F:Nat→cz} (h:Mo P ty aD call yf ops n0 E V M F) (id:Nat):∀ i,i≤ops.size →
  (M i)[id]? = jv (fun j=>touch F j id) (fun j=>(M (j+1))[id]?) ((M 0)[id]?) (fun _=>true) i∧(M i).length=jv (top F) (fun j=>(M (j+1)).length) (M 0).length (fun _=>true) i
 | 0,_=>⟨rfl,rfl⟩
 | i+1,hi=>by
  have ho:ops[i]? = some ops[i]:=Array.getElem?_eq_getElem (by omega)
  obtain⟨I2,KE⟩:=run_store h id i (by omega)
  unfold jv
  simp only[Bool.true_and]
  rw[← I2,← KE]
  cases hw:bC ops (E i) ops[i] with
  | false =>
   obtain⟨h1,h2,h3⟩:=h.no i _ ho hw
   rw[h2]
   simp
  | true =>
   have hs:=h.yes i _ ho hw
   cases mg:(F i).ids with
   | none =>
    have:=M0 hs mg
    simp[touch,top,mg,this]
   | some l =>
    obtain⟨w,w1,w2,w3⟩:=M3 hs mg
    constructor
    ·split
     ·rfl
     ·rename_i hnt
      rw[w1,wW fun i b hw=>(w2 i b hw).2.2]
      cases w with
      | none=>rfl
      | some p =>
       obtain⟨i',b⟩:=p
       obtain⟨q1,q2,q3⟩:=w2 i' b rfl
       have hne:id≠i':=by
        rintro rfl
        apply hnt
        simp[touch,q2,mg,q1]
       simp[hne]
    ·rw[w1,IQ]
     simp[top,mg]
theorem V5 {b:Array Nat} {fs:List cz} (h:ou b fs=true) {i j:Nat} {f g:cz} (hi:fs[i]? = some f) (hj:fs[j]? = some g) (hne:i≠j) (hm:f.meets g=true):(b.getD j 0).testBit i=true∨(b.getD i 0).testBit j=true:=by
 unfold ou at h
 simp only[List.all_eq_true] at h
 have h1:=h (f,i) (by rw[List.mem_zipIdx_iff_getElem?]; exact hi) (g,j) (by rw[List.mem_zipIdx_iff_getElem?]; exact hj)
 have h2:(i==j)=false:=by simpa using hne
 simp only[h2,hm,Bool.not_true,Bool.or_false,Bool.false_or,Bool.or_eq_true] at h1
 exact h1
end Go.Di
end
