import Derived.Test.YtedcgbkilmlbhaaGreatPk25
section
namespace Go.Di
open Go Go.Conc Go.Co
open Go.ConcN (sumTo sumTo_upd sumTo_congr le_sumTo upd upd_same upd_ne)
variable {P:Program} {af:Machine→Trace→Prop} {ty:eV} {x:Cx} {aD:bn} {call:aW} {yf:dH}
def Ec (ops:Array Oper):Prop:=∀ i o,ops[i]? = some o→∀ e∈o.after,Region.binds .any e=true→e.on<i
theorem BL {ops:Array Oper} (mA:Ec ops) {i j:Nat} (hne:i≠j) (h:((Region.before ops).getD j 0).testBit i=true):i<j:=by
  have uD:Closed ops fun k=>decide (k≤j):=by
    intro k o ho hk e he hb
    have:=mA k o ho e he hb
    simp only[decide_eq_true_eq] at hk ⊢
    omega
  have:=pM ops uD j i h (by simp)
  simp only[decide_eq_true_eq] at this
  omega
theorem II {ops:Array Oper} (mA:Ec ops) {L:Nat→Bool} (hL:Closed ops L) {i j:Nat} {o:Oper} (ho:ops[i]? = some o) (hi:L i=false) (sZ:∀ e∈o.after,Region.binds .any e=true→L e.on=true) (hne:i≠j)
    (h:((Region.before ops).getD j 0).testBit i=true∨((Region.before ops).getD i 0).testBit j=true):L j=true↔j<i:=by
  rcases h with h | h
  · have h1:=BL mA hne h
    refine⟨fun hj => ?_,fun hj=>by omega⟩
    have:=pM ops hL j i h hj
    rw[hi] at this
    cases this
  · have h1:=BL mA (Ne.symm hne) h
    refine⟨fun _=>h1,fun _ => ?_⟩
    have uD:Closed ops (upd L i true):=by
      intro k o' ja hk e he hb
      by_cases La:k=i
      · subst La
        rw[ho] at ja
        cases ja
        by_cases HM:e.on=k
        · rw[HM,upd_same]
        · rw[upd_ne _ _ HM]; exact sZ e he hb
      · rw[upd_ne _ _ La] at hk
        by_cases HM:e.on=i
        · rw[HM,upd_same]
        · rw[upd_ne _ _ HM]; exact hL k o' ja hk e he hb
    have:=pM ops uD i j h (upd_same _ _ _)
    rwa [upd_ne _ _ (Ne.symm hne)] at this
def lJ (ops:Array Oper) (j:Nat) (t:Tmp):Bool:=match ops[j]? with
  | some o=>o.dst==some t
  | none=>false
def jH (ops:Array Oper) (V:Nat→DV) (L:Nat→Bool) (t:Tmp):Nat→Option DV
  | 0=>none
  | n+1=>if L n&&lJ ops n t then some (V n) else jH ops V L t n
theorem iH {ops:Array Oper} {V:Nat→DV} {L:Nat→Bool} {t:Tmp} {i:Nat}:∀ {n:Nat},i≤n→(∀ j,j<n→lJ ops j t=true→(L j=true↔j<i))→jH ops V L t n=jH ops V (fun _=>true) t i
  | 0,h,_=>by
    have:i=0:=by omega
    subst this; rfl
  | n+1,h,hj=>by
    by_cases lD:i=n+1
    · subst lD
      unfold jH
      by_cases hd:lJ ops n t=true
      · have:=(hj n (by omega) hd).2 (by omega)
        simp only[this,hd,Bool.and_self,if_true]
      · simp only[Bool.and_eq_true,hd,and_false,if_false,Bool.false_eq_true]
        exact iH (Nat.le_refl _) fun j h1 h2=>⟨fun _=>h1,fun _=>(hj j (Nat.lt_succ_of_lt h1) h2).2 (Nat.lt_succ_of_lt h1)⟩
    · have hle:i≤n:=by omega
      rw[← iH hle fun j h1 h2=>hj j (by omega) h2]
      conv=>lhs; unfold jH
      by_cases hd:lJ ops n t=true
      · have:L n=false:=by
          cases hLn:L n with
          | false=>rfl
          | true=>have:=(hj n (by omega) hd).1 hLn; omega
        rw[this]
        simp
      · simp[hd]
theorem wC {ops:Array Oper} {V:Nat→DV} {L:Nat→Bool} {t:Tmp} {i:Nat} (hd:lJ ops i t=false):∀ n,jH ops V (upd L i true) t n=jH ops V L t n
  | 0=>rfl
  | n+1=>by
    unfold jH
    rw[wC hd n]
    by_cases h:n=i
    · subst h; simp[hd]
    · rw[upd_ne _ _ h]
def A0 (ops:Array Oper) (V:Nat→DV) (L:Nat→Bool) (n:Nat) (ab8 env:List DV):Prop:=∀ t,env[t]? = (ab8[t]?).map fun d=>(jH ops V L t n).getD d
theorem EB (env:List DV) (dst:Option Tmp) (v:DV) (t:Tmp):(eH env dst v)[t]? = if dst=some t then (env[t]?).map fun _=>v else env[t]? := by
  cases dst with
  | none=>simp[eH]
  | some d =>
    simp only[eH,List.getElem?_set,Option.some.injEq]
    by_cases h:d=t
    · subst h
      by_cases hl:d<env.length
      · simp[hl]
      · simp[hl]
    · simp[h]
def Ii (ops:Array Oper) (V:Nat→DV) (E:Nat→List DV):Prop:=∀ j o,ops[j]? = some o→E (j+1)=eH (E j) o.dst (V j)
theorem xm {ops:Array Oper} {V:Nat→DV} {E:Nat→List DV} (h:Ii ops V E):∀ i,i≤ops.size→A0 ops V (fun _=>true) i (E 0) (E i)
  | 0,_=>fun t=>by simp[jH]
  | i+1,hi=>fun t=>by
    have ho:ops[i]? = some ops[i]:=Array.getElem?_eq_getElem (by omega)
    have ih:=xm h i (by omega) t
    rw[h i _ ho,EB]
    unfold jH
    have hd:lJ ops i t=(ops[i].dst==some t):=by unfold lJ; rw[ho]
    by_cases P5:ops[i].dst=some t
    · simp only[P5,if_true,hd,beq_self_eq_true,Bool.and_self,Option.getD_some,ih,Option.map_map]
      rfl
    · have:(ops[i].dst==some t)=false:=by simpa using P5
      simp only[P5,if_false,hd,this,Bool.and_false,Bool.false_eq_true]
      exact ih
theorem BD {ops:Array Oper} {V:Nat→DV} {E:Nat→List DV} {L:Nat→Bool} {env:List DV} {i:Nat} {o:Oper} (ho:ops[i]? = some o) (hE:A0 ops V L ops.size (E 0) env)
    (aax:∀ t,o.dst=some t→∀ j,j<ops.size→lJ ops j t=true→(upd L i true j=true↔j<i+1)):A0 ops V (upd L i true) ops.size (E 0) (eH env o.dst (V i)):=by
  intro t
  have hi:i<ops.size:=(Array.getElem?_eq_some_iff.1 ho).1
  rw[EB]
  have hd:lJ ops i t=(o.dst==some t):=by unfold lJ; rw[ho]
  by_cases P5:o.dst=some t
  · have e:jH ops V (fun _=>true) t (i+1)=some (V i):=by unfold jH; simp[hd,P5]
    rw[if_pos P5,iH (i:=i+1) (by omega) (aax t P5),hE t,e]
    simp[Function.comp_def]
  · have h2:lJ ops i t=false:=by rw[hd]; simpa using P5
    rw[if_neg P5,wC h2]
    exact hE t
theorem wz {ops:Array Oper} (mA:Ec ops) (BP:iP ops (Region.before ops)=true) {V:Nat→DV} {E:Nat→List DV} (hS:Ii ops V E) {L:Nat→Bool} (hL:Closed ops L) {env:List DV} (hE:A0 ops V L ops.size (E 0) env) {i:Nat} {o:Oper} (ho:ops[i]? = some o) (hi:L i=false)
    (sZ:∀ e∈o.after,Region.binds .any e=true→L e.on=true):(∀ t∈iQ ops o,env[t]? = (E i)[t]?)∧∀ t,o.dst=some t→∀ j,j<ops.size→lJ ops j t=true→(upd L i true j=true↔j<i+1):=by
  have XY:i<ops.size:=(Array.getElem?_eq_some_iff.1 ho).1
  have hx:∀ t∈iQ ops o,∀ j,j<ops.size→j≠i→lJ ops j t=true→(L j=true↔j<i):=by
    intro t ht j hj hne hd
    have hoj:ops[j]? = some ops[j]:=Array.getElem?_eq_getElem hj
    have Lc:ops[j].dst=some t:=by unfold lJ at hd; rw[hoj] at hd; simpa using hd
    refine II mA hL ho hi sZ (Ne.symm hne) ?_
    unfold iP at BP
    simp only[Bool.and_eq_true,List.all_eq_true] at BP
    have h1:=BP.2 (o,i) (by rw[List.mem_zipIdx_iff_getElem?]; simpa using ho) (ops[j],j) (by rw[List.mem_zipIdx_iff_getElem?]; simp)
    simp only[Lc] at h1
    have hc:(iQ ops o).contains t=true:=by simpa using ht
    simp only[hc,Bool.not_true,Bool.or_false,Bool.or_eq_true,beq_iff_eq] at h1
    rcases h1 with (h1 | h1) | h1
    · exact absurd h1.symm hne
    · exact .inl h1
    · exact .inr h1
  constructor
  · intro t ht
    rw[hE t,xm hS i (by omega) t]
    congr 1
    funext d
    rw[iH (i:=i) (by omega) fun j hj hd => ?_]
    by_cases eB:j=i
    · subst eB; simp[hi]
    · exact hx t ht j hj eB hd
  · intro t ht j hj hd
    by_cases eB:j=i
    · subst eB; simp[upd_same]
    · rw[upd_ne _ _ eB,hx t (by simp[iQ,ht]) j hj eB hd]
      omega
theorem BB {ops:Array Oper} {o:Oper} {env ay:List DV} (h:∀ t∈iQ ops o,env[t]? = ay[t]?):∀ a∈o.op.operands,ga env a=ga ay a:=by
  intro a ha
  cases a with
  | tmp t =>
    have:t∈iQ ops o:=by
      unfold iQ
      simp only[List.mem_append]
      left; right
      rw[List.mem_filterMap]
      exact⟨.tmp t,by simpa using ha,rfl⟩
    simp only[ga,List.getD_eq_getElem?_getD,h t this]
  | _=>rfl
theorem ue {ops:Array Oper} {o:Oper} {env ay:List DV} (h:∀ t∈iQ ops o,env[t]? = ay[t]?):bD ops env o=bD ops ay o:=by
  unfold bD
  cases hg:o.guard with
  | none=>rfl
  | some g =>
    obtain⟨j,want⟩:=g
    simp only
    cases hb:(ops[j]?).bind (·.dst) with
    | none=>rfl
    | some t =>
      have:t∈iQ ops o:=by
        unfold iQ
        rw[hg]
        simp[hb]
      simp only[h t this]
theorem EE {ops:Array Oper} (h:iP ops (Region.before ops)=true):Ec ops:=by
  intro i o ho e he hb
  unfold iP at h
  simp only[Bool.and_eq_true,List.all_eq_true,Array.all_eq_true'] at h
  have h1:=h.1 (o,i) (by rw[List.mem_zipIdx_iff_getElem?]; simpa using ho) e he
  simpa [hb] using h1
theorem Ew {ops:Array Oper} {S:ak}:∀ {r:List Oper} {env ay:List DV},lZ P ty aD call yf ops S r env=some ay→∃ (E:Nat→List DV) (V:Nat→DV),E 0=env∧E r.length=ay ∧
    ∀ j o,r[j]? = some o→E (j+1)=eH (E j) o.dst (V j)∧(bD ops (E j) o=true→bZ P ty aD call yf (ga (E j)) o S=some (V j))∧(bD ops (E j) o=false→V j=aP)
  | [],env,ay,h=>by
    simp only[lZ,Option.some.injEq] at h
    exact⟨fun _=>env,fun _=>aP,rfl,h,by simp⟩
  | o::r,env,ay,h=>by
    unfold lZ at h
    have key:∀ v,lZ P ty aD call yf ops S r (eH env o.dst v)=some ay→(bD ops env o=true→bZ P ty aD call yf (ga env) o S=some v)→(bD ops env o=false→v=aP)→∃ (E:Nat→List DV) (V:Nat→DV),E 0=env∧E (o::r).length=ay ∧
        ∀ j o',(o::r)[j]? = some o'→E (j+1)=eH (E j) o'.dst (V j)∧(bD ops (E j) o'=true→bZ P ty aD call yf (ga (E j)) o' S=some (V j))∧(bD ops (E j) o'=false→V j=aP):=fun v h1 h2 h3=>by
      obtain⟨E,V,e1,e2,e3⟩:=Ew h1
      refine⟨fun n=>match n with | 0=>env | n+1=>E n,fun n=>match n with | 0=>v | n+1=>V n,rfl,by simpa using e2,fun j o' ja => ?_⟩
      cases j with
      | zero =>
        simp only[List.getElem?_cons_zero,Option.some.injEq] at ja
        subst ja
        exact⟨e1,h2,h3⟩
      | succ j=>exact e3 j o' (by simpa using ja)
    split at h
    · rename_i hw
      split at h
      · rename_i v h1
        exact key v h (fun _=>h1) fun hf=>by rw[hw] at hf; cases hf
      · cases h
    · rename_i hw
      exact key aP h (fun ht=>absurd ht hw) fun _=>rfl
theorem quiet_step {ρ:Operand→Option DV} {o:Oper} {S:ak} {v:DV} (h:bZ P ty aD call yf ρ o S=some v):ai P ty aD call yf ρ o S S.length=some (v,S):=by
  obtain⟨dst,op,type,pos,after,guard⟩:=o
  have gen:∀ {q:Option (DV×ak)},q.map (·.1)=some v→(∀ d S',q=some (d,S')→S'=S)→q=some (v,S):=by
    intro q hq hs
    simp only[Option.map_eq_some_iff] at hq
    obtain⟨⟨d,S'⟩,h1,rfl⟩:=hq
    rw[h1,hs d S' h1]
  have mp:∀ {β:Type} {q:Option β} {f:β→DV} {d:DV} {S':ak},q.map (fun c=>(f c,S))=some (d,S')→S'=S:=by
    intro β q f d S' hq
    simp only[Option.map_eq_some_iff,Prod.mk.injEq] at hq
    obtain⟨_,_,_,h⟩:=hq
    exact h.symm
  cases op<;>simp only[bZ] at h
  case call c =>
    obtain⟨callee,args,ats⟩:=c
    cases callee with
    | builtin b =>
      cases b<;>simp only at h<;>first | cases h | skip
      all_goals
        refine gen h fun d S' hq => ?_
        simp only[ai] at hq
        repeat' split at hq
        all_goals first | contradiction | exact mp (f:=id) hq | exact mp hq | (cases hq; rfl) | (cases hq; done) | skip
    | value f =>
      simp only at h
      split at h
      · rename_i g fs cs xs hf Lt
        split at h
        · cases h
        rename_i hh
        split at h
        · rename_i hp
          simp only[ai,hf,Lt,tw,hp,if_true,h]
        · cases h
      · cases h
    | invoke r m=>simp[ai] at h
  case buildSlice t n ps =>
    split at h
    · cases h
    · rename_i hh
      refine gen h fun d S' hq => ?_
      simp only[ai] at hq
      repeat' split at hq
      all_goals first | contradiction | (cases hq; first | rfl | contradiction)
  all_goals first
    | cases h
    | (refine gen h fun d S' hq => ?_
       simp only[ai] at hq
       repeat' split at hq
       all_goals first | contradiction | exact mp (f:=id) hq | exact mp hq | (cases hq; rfl) | (cases hq; done) | skip)
theorem Fs {ρ ρ':Operand→Option DV} {o:Oper} {S:ak} (h:∀ a∈o.op.operands,ρ a=ρ' a):bZ P ty aD call yf ρ o S=bZ P ty aD call yf ρ' o S:=by
  have hs:=uk (P:=P) (ty:=ty) (aD:=aD) (call:=call) (yf:=yf) (S:=S) (aA:=S.length) h
  unfold bZ
  split<;>try rfl
  · rw[hs]
  · rename_i f args ats hop
    rw[hop] at h
    have h1:ρ f=ρ' f:=h f (by simp[Op.operands,Call.operands])
    have h2:=jm (ρ:=ρ) (ρ':=ρ') (l:=args.toList) fun a ha=>h a (by simp[Op.operands,Call.operands] at ha ⊢; exact .inr ha)
    rw[h1,h2]
  · rw[hs]
theorem GR (hP:Plain P) (dh:gT P ty) (hc:gq P af call) (hi:tD P af aD) (FM:tB P af yf) {ops:Array Oper} {b:Frame} {k:List Item} {cs:List Frame} (hk:b.kind ≠ .early) (BP:iP ops (Region.before ops)=true)
    {env ay:List DV} {a:Act} (h:lZ P ty aD call yf ops x.S ops.toList env=some ay) (hR:Rel x) (he:dR x env a.tmps)
    (hn:∀ y a',y.S=x.S→Rel y→bk x y→dR y ay a'.tmps→a'.defers=a.defers→eY P af () (G (b.atR a' k) cs) y.w) (t:Nat):eY P af () (G (b.atR a (.inRegion ops (Region.linearise .any ops t)::k)) cs) x.w:=by
  have mA:=EE BP
  obtain⟨E,V,e1,e2,e3⟩:=Ew h
  have B3:∀ (j:Nat) (o:Oper),ops[j]? = some o→ops.toList[j]? = some o:=fun j o ho=>by simpa using ho
  have hS:Ii ops V E:=fun j o ho=>(e3 j o (B3 j o ho)).1
  refine qV mA (σ:=Act×Cx) (fun todo s=>s.2.S=x.S→Rel s.2→bk x s.2→s.1.defers=a.defers→eY P af () (G (b.atR s.1 (.inRegion ops todo::k)) cs) s.2.w)
    (fun L s=>∃ jG,dR s.2 jG s.1.tmps∧A0 ops V L ops.size (E 0) jG) ?_ ?_ t (a,x) ⟨env,he,fun t => ?_⟩ rfl hR (bk.refl x) rfl
  · rintro L ⟨a1,y⟩ i o ⟨jG,uG,P9⟩ uD ho hLi sZ rest x4 X4 FV LH FT
    simp only at uG X4 FV LH FT ⊢
    obtain⟨q1,q2⟩:=wz mA BP hS uD P9 ho hLi sZ
    have hw:=ue q1
    have Pp:=uZ uG ops o
    have YV:=BD (V:=V) ho P9 q2
    by_cases UC:bD ops (E i) o=true
    · have hq:=(e3 i o (B3 i o ho)).2.1 UC
      rw[← Fs (BB q1),← X4] at hq
      refine DR hP dh hc hi FM hk ho (by rw[Pp,hw]; exact UC) FV (.inl rfl) uG (quiet_step hq) fun z u zS zR zM zV => ?_
      have kN:=nB (uG.mono zM) (dst:=o.dst) zV
      exact x4 (a1.put o.dst u,z) ⟨_,kN.1,YV⟩ (zS.trans X4) zR (LH.trans zM) (kN.2.trans FT)
    · have UD:bD ops (E i) o=false:=by simpa using UC
      have hv:=(e3 i o (B3 i o ho)).2.2 UD
      have kN:=nB uG (dst:=o.dst) (d:=V i) (v:=undef) (by rw[hv]; exact .val rfl)
      exact cE hP (fun w=>⟨_,pE ho (by rw[Pp,hw]; exact UD)⟩) (x4 (a1.put o.dst undef,y) ⟨_,kN.1,YV⟩ X4 FV LH (kN.2.trans FT))
  · rintro L ⟨a1,y⟩ ⟨jG,uG,P9⟩ dx X4 FV LH FT
    have:jG=ay:=by
      refine List.ext_getElem? fun t => ?_
      have hlen:E ops.size=ay:=by simpa using e2
      rw[P9 t,← hlen,xm hS ops.size (Nat.le_refl _) t]
      congr 1
      funext d
      rw[iH (i:=ops.size) (Nat.le_refl _) fun j hj _=>by simp[dx j hj,hj]]
    subst this
    exact cE hP (fun w=>⟨_,jC⟩) (hn y a1 X4 FV LH uG FT)
  · rw[e1]
    have:∀ n,jH ops V (fun _=>false) t n=none:=by
      intro n
      induction n with
      | zero=>rfl
      | succ n ih=>unfold jH; simp[ih]
    rw[this]
    simp
end Go.Di
end
section
namespace Go.Di
open Go Go.Conc Go.Co
open Go.ConcN (upd upd_same upd_ne)
variable {P:Program} {af:Machine→Trace→Prop} {ty:eV} {x:Cx} {aD:bn} {call:aW} {yf:dH}
def appW (w:Option (Nat×DB)) (S:ak):ak:=match w with
 | none=>S
 | some (i,b)=>S.set i b
theorem lM {S:ak} {i:Nat} (h:i<S.length) (b:DB):de S i b=S.set i b:=by unfold de; rw[if_pos h]
theorem fB {S:ak} {i:Nat} {b:DB} (h:S[i]? = some b):i<S.length:=(List.getElem?_eq_some_iff.1 h).1
def qc:Op→Prop
 | .alloc _ | .box .. | .makeMap .. | .load .. | .store .. | .lookup .. | .mapUpdate .. | .makeSlice .. | .buildSlice .. | .fieldAddr .. | .indexAddr .. => False
 | .call { callee := .builtin .append,.. }=>False
 | .call { callee := .builtin _,.. }=>True
 | .call _=>False
 | _=>True
theorem map_fst {β:Type} (q:Option β) (f:β→DV) (S T:ak):q.map (fun c=>(f c,S))=((q.map (fun c=>(f c,T))).map (·.1)).map (·,S):=by cases q<;>rfl
theorem zu {ρ:Operand→Option DV} {o:Oper} (hop:qc o.op) (S:ak) (aA:Nat):ai P ty aD call yf ρ o S aA=((ai P ty aD call yf ρ o [] 0).map (·.1)).map (·,S):=by
 obtain⟨dst,op,type,pos,after,guard⟩:=o
 cases op<;>simp only[qc] at hop
 case call c =>
  obtain⟨callee,args,ats⟩:=c
  cases callee with
  | builtin b =>
   simp only[ai]
   generalize args.toList=l
   generalize ats.toList=m
   split
   ·split<;>first | rfl | exact map_fst (f:=id) _ S []
   ·exact hop.elim
   ·split<;>first | rfl | exact map_fst (f:=id) _ S []
   ·split<;>first | rfl | exact map_fst (f:=id) _ S []
   ·rfl
  | value f=>exact hop.elim
  | invoke r m=>exact hop.elim
 case makeFunc fn fs cs=>cases fn<;>simp only[ai]<;>(repeat' split)<;>rfl
 all_goals simp only[ai]
 all_goals (repeat' split)
 all_goals first
  | rfl
  | exact map_fst (f:=id) _ S []
  | exact map_fst _ _ S []
theorem yG {ρ:Operand→Option DV} {o:Oper} (hop:qc o.op) {S S':ak} {aA:Nat} {v:DV} (h:ai P ty aD call yf ρ o S aA=some (v,S')):S'=S∧∀ T qE,ai P ty aD call yf ρ o T qE=some (v,T):=by
 rw[zu hop] at h
 simp only[Option.map_eq_some_iff,Prod.mk.injEq] at h
 obtain⟨d,h1,h2,h3⟩:=h
 refine⟨h3.symm,fun T qE => ?_⟩
 rw[zu hop]
 simp only[Option.map_eq_some_iff,Prod.mk.injEq]
 exact⟨d,h1,h2,trivial⟩
structure Eff (P:Program) (ty:eV) (aD:bn) (call:aW) (yf:dH) (ρ:Operand→Option DV) (o:Oper) (S:ak) (aA:Nat) (v:DV) (S':ak) (f:cu) (F:List Nat) (w:Option (Nat×DB)):Prop where
 res:S'=appW w S
 B4:∀ i b,w=some (i,b)→i∈F∧f.wr=true∧i<S.length
 loc:∀ T,(F≠[]→T.length=S.length)→(∀ x∈F,T[x]? = S[x]?)→aC P ty aD call yf ρ o T aA=some (v,appW w T,f)
theorem Kw {S T:ak} {t:TypeId} {id off:Nat} (h:T[id]? = S[id]?):ic ty T t (.ptr id off)=ic ty S t (.ptr id off):=by
 unfold ic
 cases ty t with
 | none=>rfl
 | some d=>simp only[h]
theorem G3 {S T:ak} {t:TypeId} {rows:List DV} {i off:Nat}:ic ty T t (.cU rows i off)=ic ty S t (.cU rows i off):=by unfold ic; cases ty t<;>rfl
theorem Cb {S T:ak} {id n:Nat} (h:T[id]? = S[id]?):Ac T id n=Ac S id n:=by unfold Ac; rw[h]
theorem G2 {S T:ak} {t:TypeId} {id n off:Nat} (h:T[id]? = S[id]?):ic ty T t (.dB id n off)=ic ty S t (.dB id n off):=by
 unfold ic
 cases ty t with
 | none=>rfl
 | some d=>simp only[Cb h]
theorem mX {ρ:Operand→Option DV} {dst:Option Tmp} {t type:TypeId} {a:Operand} {f:Nat} {pos:String} {after:Array Edge} {guard:Option (Nat×Bool)} {S S' T:ak} {aA:Nat} {v:DV} (hT:∀ id n off,ρ a=some (.dB id n off)→T[id]? = S[id]?)
  (h:ai P ty aD call yf ρ ⟨dst,.fieldAddr t a f,type,pos,after,guard⟩ S aA=some (v,S')):S'=S∧∀ qE,ai P ty aD call yf ρ ⟨dst,.fieldAddr t a f,type,pos,after,guard⟩ T qE=some (v,T):=by
 simp only[ai] at h ⊢
 split at h
 ·rename_i hk ha
  split at h
  ·rename_i hf
   split at h
   ·rename_i hs
    cases h
    exact⟨rfl,fun _=>by simp only[hk,ha,hf,if_pos hs]⟩
   ·cases h
  ·cases h
 ·rename_i hk ha
  split at h
  ·rename_i hf
   split at h
   ·rename_i hs
    cases h
    exact⟨rfl,fun _=>by simp only[hk,ha,hf,if_pos hs]⟩
   ·cases h
  ·cases h
 ·rename_i hk ha
  split at h
  ·rename_i hf hop
   split at h
   ·rename_i hs
    cases h
    exact⟨rfl,fun _=>by simp only[hk,ha,hf,Cb (hT _ _ _ ha),hop,if_pos hs]⟩
   ·cases h
  ·cases h
 ·cases h
theorem mV {ρ:Operand→Option DV} {dst:Option Tmp} {t type:TypeId} {a i:Operand} {pos:String} {after:Array Edge} {guard:Option (Nat×Bool)} {S S' T:ak} {aA:Nat} {v:DV} (hT:∀ id n ag,ρ a=some (.gD id n ag)→T[id]? = S[id]?)
  (h:ai P ty aD call yf ρ ⟨dst,.indexAddr t a i,type,pos,after,guard⟩ S aA=some (v,S')):S'=S∧∀ qE,ai P ty aD call yf ρ ⟨dst,.indexAddr t a i,type,pos,after,guard⟩ T qE=some (v,T):=by
 simp only[ai] at h ⊢
 split at h
 ·rename_i hk ha hi
  split at h
  ·rename_i h0
   split at h
   ·rename_i r hr
    split at h
    ·rename_i hs
     cases h
     exact⟨rfl,fun _=>by simp only[hk,ha,hi,if_pos h0,hr,if_pos hs]⟩
    ·cases h
   ·cases h
  ·cases h
 ·rename_i hk ha hi
  split at h
  ·rename_i h0
   cases h
   exact⟨rfl,fun _=>by simp only[hk,ha,hi,if_pos h0]⟩
  ·cases h
 ·rename_i hk ha hi
  split at h
  ·rename_i h0
   cases h
   exact⟨rfl,fun _=>by simp only[hk,ha,hi,if_pos h0]⟩
  ·cases h
 ·rename_i hk ha hi
  split at h
  ·rename_i hop
   split at h
   ·rename_i h0
    cases h
    exact⟨rfl,fun _=>by simp only[hk,ha,hi,Cb (hT _ _ _ ha),hop,if_pos h0]⟩
   ·cases h
  ·cases h
 ·cases h
theorem BJ {ρ:Operand→Option DV} {o:Oper} {t:TypeId} {n:Nat} {ps:Array (Nat×Operand)} {S S':ak} {aA:Nat} {v:DV} (ho:o.op = .buildSlice t n ps) (hh:ty.h o≠1)
  (h:ai P ty aD call yf ρ o S aA=some (v,S')):S'=S∧∀ (T:ak) (qE:Nat),ai P ty aD call yf ρ o T qE=some (v,T):=by
 simp only[ai,ho] at h ⊢
 split at h
 ·rename_i hk hl
  split at h
  ·rename_i he
   split at h
   ·rename_i hc
    split at h
    ·rename_i hf
     split at h
     ·rename_i hp
      cases h
      exact⟨rfl,fun T qE=>by simp only[if_pos hc,if_pos hp]⟩
     ·cases h
    ·cases h
   ·cases h
  ·cases h
 ·cases h
theorem FE {S S':ak} {aA:Nat} {t:TypeId} {a b v:DV} (h:gI ty S aA t a b=some (v,S')) (hn:aA<S.length):∃ w,S'=appW w S∧(∀ i c,w=some (i,c)→(i=aA∨∃ r tk f,a = .sl r (some tk) f∧i=tk)∧i<S.length) ∧
  ∀ T:ak,T.length=S.length→(∀ r tk f,a = .sl r (some tk) f→T[tk]? = S[tk]?)→gI ty T aA t a b=some (v,appW w T):=by
 unfold gI at h ⊢
 split at h
 ·rename_i e s iZ agg sz z rows tok full news BU Ul SU
  split at h
  ·rename_i qH
   cases h
   exact⟨none,rfl,by simp,fun T _ _=>by simp only[qH,if_true]; rfl⟩
  ·rename_i qH
   split at h
   ·rename_i hte
    split at h
    ·rename_i hc
     cases tok with
     | none =>
      simp only at h
      split at h
      ·rename_i hf
       cases h
       refine⟨some (aA,.tail e s ((rows.length+news.length)*s)),lM hn _,fun i c hw => ?_,fun T hT _ => ?_⟩
       ·cases hw; exact⟨.inl rfl,hn⟩
       ·simp only[qH,hc,hf,if_true,Bool.false_eq_true,if_false]
        rw[lM (by omega)]
        rfl
      ·cases h
     | some tk =>
      simp only at h
      split at h
      ·rename_i e' s' n' hS
       split at h
       ·rename_i sW
        cases h
        refine⟨some (tk,.tail e s ((rows.length+news.length)*s)),rfl,fun i c hw => ?_,fun T hT hl => ?_⟩
        ·cases hw; exact⟨.inr ⟨rows,tk,full,rfl,rfl⟩,fB hS⟩
        ·have YR:T[tk]? = some (.tail e' s' n'):=(hl rows tk full rfl).trans hS
         simp only[qH,hc,YR,sW,if_true,Bool.false_eq_true,if_false]
         rfl
       ·cases h
      ·cases h
    ·cases h
   ·cases h
 ·cases h
theorem Ko {g:FuncId} {args:List DV} {S:ak} {i:Nat} {v:DV} {l:List DV} (h:vP call g args S=some (i,v,l)):i<S.length∧∀ T:ak,T[i]? = S[i]? → vP call g args T=some (i,v,l):=by
 unfold vP at h ⊢
 split at h
 ·rename_i j off rest
  split at h
  ·rename_i l0 hj
   split at h
   ·rename_i hc
    split at h
    ·rename_i v2 l' T2 gh
     split at h
     ·rename_i hq
      cases h
      refine⟨fB hj,fun T hT => ?_⟩
      rw[hj] at hT
      simp only[hT,if_pos hc,gh,if_pos hq]
     ·cases h
    ·cases h
   ·cases h
  ·cases h
 ·cases h
theorem Nu {ρ:Operand→Option DV} {o:Oper} {S S':ak} {aA:Nat} {v:DV} {f:cu} (h:aC P ty aD call yf ρ o S aA=some (v,S',f)) {F:List Nat} (hF:f.ids=some F):∃ w,Eff P ty aD call yf ρ o S aA v S' f F w:=by
 obtain⟨dst,op,type,pos,after,guard⟩:=o
 have plain:∀ (hop:qc op),(ai P ty aD call yf ρ ⟨dst,op,type,pos,after,guard⟩ S aA).map (fun r=>(r.1,r.2,(⟨some [],false⟩:cu)))=some (v,S',f)→(∀ T,aC P ty aD call yf ρ ⟨dst,op,type,pos,after,guard⟩ T aA=(ai P ty aD call yf ρ ⟨dst,op,type,pos,after,guard⟩ T aA).map (fun r=>(r.1,r.2,(⟨some [],false⟩:cu))))→∃ w,Eff P ty aD call yf ρ ⟨dst,op,type,pos,after,guard⟩ S aA v S' f F w:=by
  intro hop h1 h2
  simp only[Option.map_eq_some_iff,Prod.mk.injEq] at h1
  obtain⟨⟨d,S1⟩,h3,rfl,rfl,rfl⟩:=h1
  obtain⟨h4,h5⟩:=yG hop h3
  exact⟨none,h4,by simp,fun T _ _=>by rw[h2,h5 T aA]; rfl⟩
 cases op
 case alloc e =>
  simp only[aC] at h
  split at h
  ·rename_i hS
   have hlt:=fB hS
   simp only[ai] at h
   split at h
   ·rename_i hk
    cases h
    cases hF
    refine⟨some (aA,_),lM hlt _,fun i b hw=>by cases hw; exact⟨by simp,rfl,hlt⟩,fun T hT hx => ?_⟩
    have:=hx aA (by simp)
    have hl:=hT (by simp)
    simp only[aC,this,hS,ai,hk,Option.map_some]
    rw[lM (by omega)]
    rfl
   ·cases h
  ·cases h
 case box e a =>
  simp only[aC] at h
  split at h
  ·rename_i hS
   have hlt:=fB hS
   simp only[ai] at h
   split at h
   ·rename_i hk
    cases h
    cases hF
    refine⟨some (aA,_),lM hlt _,fun i b hw=>by cases hw; exact⟨by simp,rfl,hlt⟩,fun T hT hx => ?_⟩
    have:=hx aA (by simp)
    have hl:=hT (by simp)
    simp only[aC,this,hS,ai,hk,Option.map_some]
    rw[lM (by omega)]
    rfl
   ·cases h
  ·cases h
 case makeMap t r =>
  cases r with
  | some a =>
   simp only[aC] at h
   split at h
   ·simp[ai] at h
   ·cases h
  | none =>
   simp only[aC] at h
   split at h
   ·rename_i hS
    have hlt:=fB hS
    simp only[ai] at h
    cases h
    cases hF
    refine⟨some (aA,_),lM hlt _,fun i b hw=>by cases hw; exact⟨by simp,rfl,hlt⟩,fun T hT hx => ?_⟩
    have:=hx aA (by simp)
    have hl:=hT (by simp)
    simp only[aC,this,hS,ai,Option.map_some]
    rw[lM (by omega)]
    rfl
   ·cases h
 case store t a b =>
  simp only[aC] at h
  split at h
  ·rename_i id off ha
   simp only[ai,ha] at h
   split at h
   ·rename_i a' v' h1 h2
    cases h1
    unfold kY at h
    split at h
    ·rename_i td gE qD hk UK
     cases UK
     split at h
     ·rename_i l hl
      split at h
      ·rename_i hc
       simp only[Option.map_map,Option.map_eq_some_iff,Function.comp_apply,Prod.mk.injEq] at h
       obtain⟨l',h3,rfl,rfl,rfl⟩:=h
       cases hF
       refine⟨some (id,.cells l'),rfl,fun i b hw=>by cases hw; exact⟨by simp,rfl,fB hl⟩,fun T hT hx => ?_⟩
       have:=hx id (by simp)
       simp only[aC,ha,ai,h2,kY,hk,this,hl,hc,if_true,h3,Option.map_some]
       rfl
      ·cases h
     ·cases h
    ·rename_i UK; cases UK
    ·cases h
   ·cases h
  ·rename_i id n off ha
   simp only[ai,ha] at h
   split at h
   ·rename_i a' v' h1 h2
    cases h1
    unfold kY at h
    split at h
    ·rename_i UK; cases UK
    ·rename_i td gE n' qD hk UK
     cases UK
     split at h
     ·rename_i e s l hop
      have hl:=(iT hop).1
      split at h
      ·rename_i hc
       simp only[Option.map_map,Option.map_eq_some_iff,Function.comp_apply,Prod.mk.injEq] at h
       obtain⟨l',h3,rfl,rfl,rfl⟩:=h
       cases hF
       refine⟨some (id,.op e s l' false),rfl,fun i b hw=>by cases hw; exact⟨by simp,rfl,fB hl⟩,fun T hT hx => ?_⟩
       have:=hx id (by simp)
       simp only[aC,ha,ai,h2,kY,hk,Cb this,hop,hc,if_true,h3,Option.map_some]
       rfl
      ·cases h
     ·cases h
    ·cases h
   ·cases h
  ·cases h
 case makeSlice t a b=>simp only[aC] at h; cases h
 case buildSlice t n ps =>
  simp only[aC] at h
  split at h
  ·cases h
  ·rename_i hh
   simp only[Option.map_eq_some_iff,Prod.mk.injEq] at h
   obtain⟨⟨d,S1⟩,h3,rfl,rfl,rfl⟩:=h
   cases hF
   obtain⟨h4,h5⟩:=BJ rfl hh h3
   refine⟨none,h4,by simp,fun T hT hx => ?_⟩
   simp only[aC,h5 T aA,Option.map_some]
   rfl
 case fieldAddr t a f' =>
  simp only[aC] at h
  split at h
  ·rename_i id n off ha
   simp only[Option.map_eq_some_iff,Prod.mk.injEq] at h
   obtain⟨⟨d,S1⟩,h3,rfl,rfl,rfl⟩:=h
   cases hF
   refine⟨none,(mX (T:=S) (fun _ _ _ _=>rfl) h3).1,by simp,fun T hT hx => ?_⟩
   have h5:=(mX (T:=T) (fun gE n' qD he=>by rw[ha] at he; cases he; exact hx id (by simp)) h3).2 aA
   simp only[aC,ha,h5,Option.map_some]
   rfl
  ·rename_i hno
   simp only[Option.map_eq_some_iff,Prod.mk.injEq] at h
   obtain⟨⟨d,S1⟩,h3,rfl,rfl,rfl⟩:=h
   cases hF
   refine⟨none,(mX (T:=S) (fun _ _ _ _=>rfl) h3).1,by simp,fun T hT hx => ?_⟩
   have h5:=(mX (T:=T) (fun gE n' qD he=>absurd he (hno _ _ _)) h3).2 aA
   simp only[aC,h5,Option.map_some]
   rfl
 case indexAddr t a i =>
  simp only[aC] at h
  split at h
  ·rename_i id n ag ha
   simp only[Option.map_eq_some_iff,Prod.mk.injEq] at h
   obtain⟨⟨d,S1⟩,h3,rfl,rfl,rfl⟩:=h
   cases hF
   refine⟨none,(mV (T:=S) (fun _ _ _ _=>rfl) h3).1,by simp,fun T hT hx => ?_⟩
   have h5:=(mV (T:=T) (fun gE n' qD he=>by rw[ha] at he; cases he; exact hx id (by simp)) h3).2 aA
   simp only[aC,ha,h5,Option.map_some]
   rfl
  ·rename_i hno
   simp only[Option.map_eq_some_iff,Prod.mk.injEq] at h
   obtain⟨⟨d,S1⟩,h3,rfl,rfl,rfl⟩:=h
   cases hF
   refine⟨none,(mV (T:=S) (fun _ _ _ _=>rfl) h3).1,by simp,fun T hT hx => ?_⟩
   have h5:=(mV (T:=T) (fun gE n' qD he=>absurd he (hno _ _ _)) h3).2 aA
   simp only[aC,h5,Option.map_some]
   rfl
 case load t a =>
  simp only[aC] at h
  split at h
  ·rename_i id off ha
   simp only[ai,ha] at h
   simp only[Option.map_map,Option.map_eq_some_iff,Function.comp_apply,Prod.mk.injEq] at h
   obtain⟨d,h3,rfl,rfl,rfl⟩:=h
   cases hF
   refine⟨none,rfl,by simp,fun T hT hx => ?_⟩
   have:=hx id (by simp)
   simp only[aC,ha,ai,Kw this,h3,Option.map_some]
   rfl
  ·rename_i id n off ha
   simp only[ai,ha] at h
   simp only[Option.map_map,Option.map_eq_some_iff,Function.comp_apply,Prod.mk.injEq] at h
   obtain⟨d,h3,rfl,rfl,rfl⟩:=h
   cases hF
   refine⟨none,rfl,by simp,fun T hT hx => ?_⟩
   have:=hx id (by simp)
   simp only[aC,ha,ai,G2 this,h3,Option.map_some]
   rfl
  ·rename_i hno Zz
   simp only[ai] at h
   split at h
   ·rename_i a' ha
    simp only[Option.map_map,Option.map_eq_some_iff,Function.comp_apply,Prod.mk.injEq] at h
    obtain⟨d,h3,rfl,rfl,rfl⟩:=h
    cases hF
    refine⟨none,rfl,by simp,fun T hT hx => ?_⟩
    have hld:ic ty T t a'=some d:=by
     cases a' with
     | ptr id off=>exact absurd ha (hno id off)
     | dB id n off=>exact absurd ha (Zz id n off)
     | cU rows i off=>rw[← h3]; exact G3
     | _=>unfold ic at h3; split at h3<;>simp_all
    cases a' with
    | ptr id off=>exact absurd ha (hno id off)
    | dB id n off=>exact absurd ha (Zz id n off)
    | _=>simp only[aC,ha,ai,hld,Option.map_some]; rfl
   ·cases h
 case lookup t m k ok =>
  simp only[aC] at h
  split at h
  ·rename_i id ha
   simp only[ai,ha] at h
   split at h
   ·rename_i kv hm hk
    cases hm
    split at h
    ·rename_i es hS
     simp only[Option.map_map,Option.map_eq_some_iff,Function.comp_apply,Prod.mk.injEq] at h
     obtain⟨d,h3,rfl,rfl,rfl⟩:=h
     cases hF
     refine⟨none,rfl,by simp,fun T hT hx => ?_⟩
     have:=hx id (by simp)
     simp only[aC,ha,ai,hk,this,hS,h3,Option.map_some]
     rfl
    ·cases h
   ·cases h
  ·cases h
 case mapUpdate t m k a =>
  simp only[aC] at h
  split at h
  ·rename_i id ha
   simp only[ai,ha] at h
   split at h
   ·rename_i gE kv vv hm hk hv
    cases hm
    split at h
    ·rename_i es hS
     split at h
     ·rename_i r hr
      simp only[Option.map_map,Option.map_eq_some_iff,Function.comp_apply,Prod.mk.injEq] at h
      obtain⟨es',h3,rfl,rfl,rfl⟩:=h
      cases hF
      refine⟨some (id,.map es'),rfl,fun i b hw=>by cases hw; exact⟨by simp,rfl,fB hS⟩,fun T hT hx => ?_⟩
      have:=hx id (by simp)
      simp only[aC,ha,ai,hk,hv,this,hS,hr,h3,Option.map_some]
      rfl
     ·cases h
    ·cases h
   ·cases h
  ·cases h
 case call c =>
  obtain⟨callee,args,ats⟩:=c
  cases callee with
  | invoke r m=>simp[aC,ai] at h
  | value g =>
   simp only[aC] at h
   split at h
   ·rename_i g' fs cs xs hf Lt
    split at h
    ·cases h
    rename_i hh
    split at h
    ·rename_i hp
     simp only[Option.map_eq_some_iff,Prod.mk.injEq] at h
     obtain⟨d,h3,rfl,rfl,rfl⟩:=h
     cases hF
     exact⟨none,rfl,by simp,fun T hT hx=>by simp only[aC,hf,Lt,if_neg hh,hp,if_true,h3,Option.map_some]; rfl⟩
    ·rename_i hp
     split at h
     ·rename_i i v1 l1 ho
      cases h
      cases hF
      obtain⟨hi,hT⟩:=Ko ho
      exact⟨some (i,.cells l1),rfl,fun _ _ hw=>by cases hw; exact⟨by simp,rfl,hi⟩,fun T _ hx=>by simp only[aC,hf,Lt,if_neg hh,if_neg hp,hT T (hx i (by simp))]; rfl⟩
     ·simp only[Option.map_eq_some_iff,Prod.mk.injEq] at h
      obtain⟨r,h3,rfl,rfl,rfl⟩:=h
      cases hF
   ·simp only[Option.map_eq_some_iff,Prod.mk.injEq] at h
    obtain⟨r,h3,rfl,rfl,rfl⟩:=h
    cases hF
   ·cases h
  | builtin b =>
   by_cases hb:b = .append
   ·subst hb
    simp only[aC] at h
    split at h
    ·cases h
    rename_i hh
    split at h
    ·cases h
    rename_i hsl
    have Zw:∀ a da,args.toList[0]? = some a→ρ a=some da→xZ (some da)=false:=fun a da h0 h1=>by
     have:args[0]? = some a:=by rw[← Array.getElem?_toList]; exact h0
     rw[this] at hsl
     rw[← h1]
     simpa using hsl
    have hstep:∀ T:ak,ai P ty aD call yf ρ ⟨dst,.call ⟨.builtin .append,args,ats⟩,type,pos,after,guard⟩ T aA=match args.toList,ats.toList with
      | [x,y],[t,u]=>if t=u then match ρ x,ρ y with
        | some a,some b=>gI ty T aA t a b
        | _,_=>none
       else none
      | _,_=>none:=fun T=>by
     simp only[ai]
     generalize args.toList=l at Zw
     generalize ats.toList=m
     match l,m with
     | [x,y],[t,u] =>
      dsimp only
      cases hx:ρ x with
      | none=>rfl
      | some a =>
       cases ρ y with
       | none=>rfl
       | some b =>
        have h0:=Zw x a rfl hx
        cases a<;>first | (simp[xZ] at h0; done) | rfl | (dsimp only; split<;>first | exact absurd ‹_› hh | rfl)
     | [],_=>rfl
     | [_],_=>rfl
     | _::_::_::_,_=>rfl
     | [_,_],[]=>rfl
     | [_,_],[_]=>rfl
     | [_,_],_::_::_::_=>rfl
    have main:∀ (r:DV×ak) (F:List Nat),ai P ty aD call yf ρ ⟨dst,.call ⟨.builtin .append,args,ats⟩,type,pos,after,guard⟩ S aA=some r→S[aA]? = some .none→aA∈F→(∀ rw tk fl,(args[0]?).bind ρ=some (.sl rw (some tk) fl)→tk∈F)→(∀ T:ak,T[aA]? = some .none→aC P ty aD call yf ρ ⟨dst,.call ⟨.builtin .append,args,ats⟩,type,pos,after,guard⟩ T aA=(ai P ty aD call yf ρ ⟨dst,.call ⟨.builtin .append,args,ats⟩,type,pos,after,guard⟩ T aA).map (fun r=>(r.1,r.2,(⟨some F,true⟩:cu)))) →
      ∃ w,Eff P ty aD call yf ρ ⟨dst,.call ⟨.builtin .append,args,ats⟩,type,pos,after,guard⟩ S aA r.1 r.2 ⟨some F,true⟩ F w:=by
     intro r F hr hS hnF htk BP
     rw[hstep] at hr
     split at hr
     ·rename_i a b t u ig L5
      split at hr
      ·rename_i Lx
       split at hr
       ·rename_i da db ha jP
        obtain⟨w,w1,w2,w3⟩:=FE (v:=r.1) (S':=r.2) hr (fB hS)
        have Af:(args[0]?).bind ρ=some da:=by
         have:args[0]? = some a:=by rw[← Array.getElem?_toList,ig]; rfl
         rw[this]; exact ha
        refine⟨w,w1,fun i c hw => ?_,fun T hT hx => ?_⟩
        ·obtain⟨h1,h2⟩:=w2 i c hw
         rcases h1 with rfl | ⟨Yj,tk,fl,rfl,rfl⟩
         ·exact⟨hnF,rfl,h2⟩
         ·exact⟨htk _ _ _ Af,rfl,h2⟩
        ·have hl:=hT (List.ne_nil_of_mem hnF)
         have YR:=(hx aA hnF).trans hS
         have:=w3 T hl fun Yj tk fl qB=>hx tk (htk Yj tk fl (by rw[Af,qB]))
         rw[BP T YR,hstep,ig,L5]
         simp only[if_pos Lx,ha,jP,this,Option.map_some]
       ·cases hr
      ·cases hr
     ·cases hr
    split at h
    ·rename_i Yj tk fl hS jP
     simp only[Option.map_eq_some_iff,Prod.mk.injEq] at h
     obtain⟨r,h3,rfl,rfl,rfl⟩:=h
     cases hF
     exact main r [tk,aA] h3 hS (by simp) (fun _ _ _ he=>by rw[jP] at he; cases he; simp) fun T hT=>by simp only[aC,if_neg hh,hT,jP,xZ,Bool.false_eq_true,if_false]
    ·rename_i hS hno
     simp only[Option.map_eq_some_iff,Prod.mk.injEq] at h
     obtain⟨r,h3,rfl,rfl,rfl⟩:=h
     cases hF
     refine main r [aA] h3 hS (by simp) (fun Yj tk fl he=>absurd he (hno Yj tk fl)) fun T hT => ?_
     simp only[aC,if_neg hh,if_neg hsl,hT]
    ·cases h
   ·have hop:qc (.call ⟨.builtin b,args,ats⟩):=by cases b<;>first | trivial | exact absurd rfl hb
    have BP:∀ T,aC P ty aD call yf ρ ⟨dst,.call ⟨.builtin b,args,ats⟩,type,pos,after,guard⟩ T aA=(ai P ty aD call yf ρ ⟨dst,.call ⟨.builtin b,args,ats⟩,type,pos,after,guard⟩ T aA).map (fun r=>(r.1,r.2,(⟨some [],false⟩:cu))):=fun T=>by
     cases b<;>first | rfl | exact absurd rfl hb
    rw[BP] at h
    exact plain hop h BP
 all_goals exact plain trivial h fun T=>rfl
end Go.Di
end
section
namespace Go.Di
open Go Go.Conc Go.Co
open Go.ConcN (upd upd_same upd_ne)
variable {P:Program} {af:Machine→Trace→Prop} {ty:eV} {x:Cx} {aD:bn} {call:aW} {yf:dH}
theorem CX {ρ ρ':Operand→Option DV} {o:Oper} {S:ak} {aA:Nat} (h:∀ a∈o.op.operands,ρ a=ρ' a):aC P ty aD call yf ρ o S aA=aC P ty aD call yf ρ' o S aA:=by
 have hs:=uk (P:=P) (ty:=ty) (aD:=aD) (call:=call) (yf:=yf) (S:=S) (aA:=aA) h
 unfold aC
 split
 ·rw[hs]
 ·rw[hs]
 ·rw[hs]
 ·rename_i t a v hop
  rw[hop] at h
  rw[h a (by simp[Op.operands]),hs]
 ·rename_i t a v hop
  rw[hop] at h
  rw[h a (by simp[Op.operands]),hs]
 ·rename_i t a v hop
  rw[hop] at h
  rw[h a (by simp[Op.operands]),hs]
 ·rw[hs]
 ·rfl
 ·rename_i t m k ok hop
  rw[hop] at h
  rw[h m (by simp[Op.operands]),hs]
 ·rename_i t m k v hop
  rw[hop] at h
  rw[h m (by simp[Op.operands]),hs]
 ·rename_i t a hop
  rw[hop] at h
  rw[h a (by simp[Op.operands]),hs]
 ·rename_i args ats hop
  rw[hop] at h
  have:(args[0]?).bind ρ=(args[0]?).bind ρ':=by
   cases ha:args[0]? with
   | none=>rfl
   | some a=>exact h a (by simp[Op.operands,Call.operands,Array.mem_of_getElem? ha])
  rw[this,hs]
 ·rename_i f args ats hop
  rw[hop] at h
  have h1:ρ f=ρ' f:=h f (by simp[Op.operands,Call.operands])
  have h2:=jm (ρ:=ρ) (ρ':=ρ') (l:=args.toList) fun a ha=>h a (by simp[Op.operands,Call.operands] at ha ⊢; exact .inr ha)
  rw[h1,h2]
 ·rw[hs]
def SH:Op→Prop
 | .call { callee := .value _,.. }=>False
 | _=>True
theorem cC {c1 c2:aW} {ρ:Operand→Option DV} {o:Oper} {S:ak} {aA:Nat} (h:SH o.op):ai P ty aD c1 yf ρ o S aA=ai P ty aD c2 yf ρ o S aA:=by
 obtain⟨dst,op,type,pos,after,guard⟩:=o
 cases op
 case call c =>
  obtain⟨callee,args,ats⟩:=c
  cases callee with
  | value f=>exact h.elim
  | builtin b=>simp only[ai]
  | invoke r m=>simp only[ai]
 case makeFunc fn a b=>cases fn<;>simp only[ai]
 case makeMap t r=>cases r<;>simp only[ai]
 all_goals first
  | rfl
  | simp only[ai]
theorem Si {ρ:Operand→Option DV} {o:Oper} {S S':ak} {aA:Nat} {v:DV} {f:cu} (h:aC P ty aD call yf ρ o S aA=some (v,S',f)):∃ qE,AJ S qE∧ai P ty aD (Ic call) yf ρ o S qE=some (v,S'):=by
 obtain⟨dst,op,type,pos,after,guard⟩:=o
 have mp:∀ {q:Option (DV×ak)} {g:DV×ak→cu},q.map (fun r=>(r.1,r.2,g r))=some (v,S',f)→q=some (v,S'):=by
  intro q g hq
  simp only[Option.map_eq_some_iff,Prod.mk.injEq] at hq
  obtain⟨⟨a,b⟩,h1,h2,h3,-⟩:=hq
  rw[h1,← h2,← h3]
 have plain:∀ {q:ak→Nat→Option (DV×ak)},(∀ n m,q S n=q S m)→q S aA=some (v,S')→∃ qE,AJ S qE∧q S qE=some (v,S'):=fun hq h=>⟨S.length,.inl rfl,by rw[hq _ aA]; exact h⟩
 cases op
 case alloc e =>
  simp only[aC] at h
  split at h
  ·rename_i hS; exact⟨aA,.inr hS,(cC (c2:=call) (by trivial)).trans (mp h)⟩
  ·cases h
 case box e a =>
  simp only[aC] at h
  split at h
  ·rename_i hS; exact⟨aA,.inr hS,(cC (c2:=call) (by trivial)).trans (mp h)⟩
  ·cases h
 case makeMap e a =>
  simp only[aC] at h
  split at h
  ·rename_i hS; exact⟨aA,.inr hS,(cC (c2:=call) (by trivial)).trans (mp h)⟩
  ·cases h
 case store t a b =>
  simp only[aC] at h
  split at h
  ·exact⟨S.length,.inl rfl,(cC (c2:=call) (by trivial)).trans (mp h)⟩
  ·exact⟨S.length,.inl rfl,(cC (c2:=call) (by trivial)).trans (mp h)⟩
  ·cases h
 case makeSlice t a b=>simp only[aC] at h; cases h
 case buildSlice t n ps =>
  simp only[aC] at h
  split at h
  ·cases h
  ·rename_i hh
   obtain⟨h1,h2⟩:=BJ rfl hh (mp h)
   subst h1
   exact⟨S'.length,.inl rfl,(cC (c2:=call) (by trivial)).trans (h2 _ _)⟩
 case fieldAddr t a i =>
  simp only[aC] at h
  split at h
  all_goals
   obtain⟨h1,h2⟩:=mX (T:=S) (fun _ _ _ _=>rfl) (mp h)
   subst h1
   exact⟨S'.length,.inl rfl,(cC (c2:=call) (by trivial)).trans (h2 _)⟩
 case indexAddr t a i =>
  simp only[aC] at h
  split at h
  all_goals
   obtain⟨h1,h2⟩:=mV (T:=S) (fun _ _ _ _=>rfl) (mp h)
   subst h1
   exact⟨S'.length,.inl rfl,(cC (c2:=call) (by trivial)).trans (h2 _)⟩
 case load t a =>
  simp only[aC] at h
  split at h
  ·exact⟨S.length,.inl rfl,(cC (c2:=call) (by trivial)).trans (mp h)⟩
  ·exact⟨S.length,.inl rfl,(cC (c2:=call) (by trivial)).trans (mp h)⟩
  ·exact⟨S.length,.inl rfl,(cC (c2:=call) (by trivial)).trans (mp h)⟩
 case lookup t m k ok =>
  simp only[aC] at h
  split at h
  ·exact⟨S.length,.inl rfl,(cC (c2:=call) (by trivial)).trans (mp h)⟩
  ·cases h
 case mapUpdate t m k a =>
  simp only[aC] at h
  split at h
  ·exact⟨S.length,.inl rfl,(cC (c2:=call) (by trivial)).trans (mp h)⟩
  ·cases h
 case call c =>
  obtain⟨callee,args,ats⟩:=c
  cases callee with
  | invoke r m=>simp[aC,ai] at h
  | value g =>
   simp only[aC] at h
   refine⟨S.length,.inl rfl,?_⟩
   simp only[ai]
   split at h
   ·rename_i g' fs cs xs hf Lt
    split at h
    ·cases h
    rename_i hh
    simp only[tw]
    split at h
    ·rename_i hp
     simp only[Option.map_eq_some_iff,Prod.mk.injEq] at h
     obtain⟨d,h3,rfl,rfl,-⟩:=h
     rw[if_pos hp,h3]
    ·rename_i hp
     rw[if_neg hp]
     unfold Ic
     split at h
     ·rename_i ho
      cases h
      rfl
     ·exact mp h
   ·exact mp h
   ·cases h
  | builtin b =>
   by_cases hb:b = .append
   ·subst hb
    simp only[aC] at h
    split at h
    ·cases h
    split at h
    ·cases h
    split at h
    ·rename_i hS _; exact⟨aA,.inr hS,(cC (c2:=call) (by trivial)).trans (mp h)⟩
    ·rename_i hS _; exact⟨aA,.inr hS,(cC (c2:=call) (by trivial)).trans (mp h)⟩
    ·cases h
   ·have BP:aC P ty aD call yf ρ ⟨dst,.call ⟨.builtin b,args,ats⟩,type,pos,after,guard⟩ S aA=(ai P ty aD call yf ρ ⟨dst,.call ⟨.builtin b,args,ats⟩,type,pos,after,guard⟩ S aA).map (fun r=>(r.1,r.2,(⟨some [],false⟩:cu))):=by
     cases b<;>first | rfl | exact absurd rfl hb
    rw[BP] at h
    have hop:qc (.call ⟨.builtin b,args,ats⟩):=by cases b<;>first | trivial | exact absurd rfl hb
    obtain⟨h1,h2⟩:=yG hop (mp h)
    subst h1
    exact⟨S'.length,.inl rfl,(cC (c2:=call) (by trivial)).trans (h2 _ _)⟩
 all_goals
  simp only[aC] at h
  obtain⟨h1,h2⟩:=yG (by trivial) (mp h)
  subst h1
  exact⟨S'.length,.inl rfl,(cC (c2:=call) (by trivial)).trans (h2 _ _)⟩
theorem Nt {ρ:Operand→Option DV} {o:Oper} {S S':ak} {aA:Nat} {v:DV} {f:cu} (h:aC P ty aD call yf ρ o S aA=some (v,S',f)) (hf:f.ids=none):f.wr=true:=by
 have mp:∀ {q:Option (DV×ak)} {l:List Nat} {b:Bool},q.map (fun r=>(r.1,r.2,(⟨some l,b⟩:cu)))=some (v,S',f)→False:=by
  intro q l b hq
  simp only[Option.map_eq_some_iff,Prod.mk.injEq] at hq
  obtain⟨_,-,-,-,rfl⟩:=hq
  cases hf
 have mt:∀ {q:Option (DV×ak)},q.map (fun r=>(r.1,r.2,(⟨none,true⟩:cu)))=some (v,S',f)→f.wr=true:=by
  intro q hq
  simp only[Option.map_eq_some_iff,Prod.mk.injEq] at hq
  obtain⟨_,-,-,-,rfl⟩:=hq
  rfl
 unfold aC at h
 split at h
 case h_13 =>
  split at h
  ·simp only at h
   split at h
   ·cases h
   split at h
   ·simp only[Option.map_eq_some_iff,Prod.mk.injEq] at h
    obtain⟨_,-,-,-,rfl⟩:=h
    cases hf
   ·split at h
    ·cases h; cases hf
    ·exact mt h
  ·exact mt h
  ·cases h
 all_goals (repeat' split at h)
 all_goals first
  | exact(mp h).elim
  | cases h
def touch (F:Nat→cu) (j id:Nat):Bool:=(F j).wr&&match (F j).ids with
 | none=>true
 | some l=>l.contains id
def top (F:Nat→cu) (j:Nat):Bool:=(F j).wr&&(F j).ids.isNone
def jI {α:Type} (W:Nat→Bool) (R:Nat→α) (d:α) (L:Nat→Bool):Nat→α
 | 0=>d
 | n+1=>if L n&&W n then R n else jI W R d L n
theorem eX {α:Type} {W:Nat→Bool} {R:Nat→α} {d:α} {L:Nat→Bool} {i:Nat}:∀ {n:Nat},i≤n→(∀ j,j<n→W j=true→(L j=true↔j<i))→jI W R d L n=jI W R d (fun _=>true) i
 | 0,h,_=>by
  have:i=0:=by omega
  subst this; rfl
 | n+1,h,hj=>by
  by_cases lD:i=n+1
  ·subst lD
   unfold jI
   by_cases hd:W n=true
   ·have:=(hj n (by omega) hd).2 (by omega)
    simp only[this,hd,Bool.and_self,if_true]
   ·simp only[Bool.and_eq_true,hd,and_false,if_false,Bool.false_eq_true]
    exact eX (Nat.le_refl _) fun j h1 h2=>⟨fun _=>h1,fun _=>(hj j (Nat.lt_succ_of_lt h1) h2).2 (Nat.lt_succ_of_lt h1)⟩
  ·have hle:i≤n:=by omega
   rw[← eX hle fun j h1 h2=>hj j (by omega) h2]
   conv=>lhs; unfold jI
   by_cases hd:W n=true
   ·have:L n=false:=by
     cases hLn:L n with
     | false=>rfl
     | true=>have:=(hj n (by omega) hd).1 hLn; omega
    rw[this]
    simp
   ·simp[hd]
theorem jL {α:Type} {W:Nat→Bool} {R:Nat→α} {d:α} {L:Nat→Bool} {i:Nat} (hd:W i=false):∀ n,jI W R d (upd L i true) n=jI W R d L n
 | 0=>rfl
 | n+1=>by
  unfold jI
  rw[jL hd n]
  by_cases h:n=i
  ·subst h; simp[hd]
  ·rw[upd_ne _ _ h]
theorem sD {α:Type} {W:Nat→Bool} {R:Nat→α} {d:α} {i:Nat} (hd:W i=true):jI W R d (fun _=>true) (i+1)=R i:=by unfold jI; simp[hd]
structure ML (P:Program) (ty:eV) (aD:bn) (call:aW) (yf:dH) (ops:Array Oper) (n0:Nat) (E:Nat→List DV) (V:Nat→DV) (M:Nat→ak) (F:Nat→cu):Prop where
 env:Ii ops V E
 yes:∀ j o,ops[j]? = some o→bD ops (E j) o=true→aC P ty aD call yf (ga (E j)) o (M j) (n0+j)=some (V j,M (j+1),F j)
 no:∀ j o,ops[j]? = some o→bD ops (E j) o=false→V j=aP∧M (j+1)=M j∧F j=⟨some [],false⟩
theorem A9 {ops:Array Oper} {n0:Nat}:∀ {r:List Oper} {i:Nat} {env ay:List DV} {S S':ak} {fs:List cu},nZ P ty aD call yf ops n0 r i env S=some (ay,S',fs) →
  ∃ (E:Nat→List DV) (V:Nat→DV) (M:Nat→ak) (F:Nat→cu),E 0=env∧E r.length=ay∧M 0=S∧M r.length=S'∧(fs.length=r.length∧∀ j,j<r.length→fs[j]? = some (F j)) ∧
   ∀ j o,r[j]? = some o→E (j+1)=eH (E j) o.dst (V j)∧(bD ops (E j) o=true→aC P ty aD call yf (ga (E j)) o (M j) (n0+(i+j))=some (V j,M (j+1),F j))∧(bD ops (E j) o=false→V j=aP∧M (j+1)=M j∧F j=⟨some [],false⟩)
 | [],i,env,ay,S,S',fs,h=>by
  simp only[nZ,Option.some.injEq,Prod.mk.injEq] at h
  obtain⟨rfl,rfl,rfl⟩:=h
  exact⟨fun _=>env,fun _=>aP,fun _=>S,fun _=>⟨some [],false⟩,rfl,rfl,rfl,rfl,⟨rfl,by simp⟩,by simp⟩
 | o::r,i,env,ay,S,S',fs,h=>by
  unfold nZ at h
  have key:∀ v S1 f mG ry L6,nZ P ty aD call yf ops n0 r (i+1) (eH env o.dst v) S1=some (mG,ry,L6)→(bD ops env o=true→aC P ty aD call yf (ga env) o S (n0+i)=some (v,S1,f))→(bD ops env o=false→v=aP∧S1=S∧f=⟨some [],false⟩)→some (mG,ry,f::L6)=some (ay,S',fs) →
    ∃ (E:Nat→List DV) (V:Nat→DV) (M:Nat→ak) (F:Nat→cu),E 0=env∧E (o::r).length=ay∧M 0=S∧M (o::r).length=S'∧(fs.length=(o::r).length∧∀ j,j<(o::r).length→fs[j]? = some (F j)) ∧
     ∀ j o',(o::r)[j]? = some o'→E (j+1)=eH (E j) o'.dst (V j)∧(bD ops (E j) o'=true→aC P ty aD call yf (ga (E j)) o' (M j) (n0+(i+j))=some (V j,M (j+1),F j))∧(bD ops (E j) o'=false→V j=aP∧M (j+1)=M j∧F j=⟨some [],false⟩):=by
   intro v S1 f mG ry L6 h1 h2 h3 h4
   cases h4
   obtain⟨E,V,M,F,e1,e2,e3,e4,e5,e6⟩:=A9 h1
   refine⟨fun n=>match n with | 0=>env | n+1=>E n,fun n=>match n with | 0=>v | n+1=>V n,fun n=>match n with | 0=>S | n+1=>M n,fun n=>match n with | 0=>f | n+1=>F n,rfl,by simpa using e2,rfl,by simpa using e4,⟨by simp[e5.1],fun j hj => ?_⟩,fun j o' ja => ?_⟩
   ·cases j with
    | zero=>rfl
    | succ j=>simpa using e5.2 j (by simpa using hj)
   ·cases j with
    | zero =>
     simp only[List.getElem?_cons_zero,Option.some.injEq] at ja
     subst ja
     exact⟨e1,fun hw=>by have:=h2 hw; rw[← e3] at this; exact this,fun hw=>by have:=h3 hw; rw[← e3] at this; exact this⟩
    | succ j =>
     have:=e6 j o' (by simpa using ja)
     have e:i+(j+1)=i+1+j:=by omega
     rw[e]
     exact this
  split at h
  ·rename_i hw
   split at h
   ·rename_i v S1 f h1
    split at h
    ·rename_i mG ry L6 h2
     exact key v S1 f _ _ _ h2 (fun _=>h1) (fun hf=>by rw[hw] at hf; cases hf) h
    ·cases h
   ·cases h
  ·rename_i hw
   split at h
   ·rename_i mG ry L6 h2
    exact key aP S ⟨some [],false⟩ _ _ _ h2 (fun ht=>absurd ht hw) (fun _=>⟨rfl,rfl,rfl⟩) h
   ·cases h
theorem WO {ops:Array Oper} {n0:Nat} {env ay:List DV} {S S':ak} {fs:List cu} (h:nZ P ty aD call yf ops n0 ops.toList 0 env S=some (ay,S',fs)) :
  ∃ (E:Nat→List DV) (V:Nat→DV) (M:Nat→ak) (F:Nat→cu),ML P ty aD call yf ops n0 E V M F∧E 0=env∧E ops.size=ay∧M 0=S∧M ops.size=S'∧∀ j,j<ops.size→fs[j]? = some (F j):=by
 obtain⟨E,V,M,F,e1,e2,e3,e4,e5,e6⟩:=A9 h
 refine⟨E,V,M,F,⟨fun j o ho=>(e6 j o (by simpa using ho)).1,fun j o ho hw => ?_,fun j o ho hw=>(e6 j o (by simpa using ho)).2.2 hw⟩,e1,by simpa using e2,e3,by simpa using e4,fun j hj=>e5.2 j (by simpa using hj)⟩
 have:=(e6 j o (by simpa using ho)).2.1 hw
 simpa using this
theorem xE {w:Option (Nat×DB)} {S:ak} (h:∀ i b,w=some (i,b)→i<S.length) (id:Nat):(appW w S)[id]? = match w with | some (i,b)=>if id=i then some b else S[id]? | none=>S[id]? := by
 cases w with
 | none=>rfl
 | some p =>
  obtain⟨i,b⟩:=p
  have hlt:=h i b rfl
  simp only[appW]
  rw[List.getElem?_set]
  by_cases h1:id=i
  ·subst h1; simp[hlt]
  ·rw[if_neg (Ne.symm h1),if_neg h1]
theorem I8 {w:Option (Nat×DB)} {S:ak}:(appW w S).length=S.length:=by cases w<;>simp[appW]
theorem run_store {ops:Array Oper} {n0:Nat} {E:Nat→List DV} {V:Nat→DV} {M:Nat→ak} {F:Nat→cu} (h:ML P ty aD call yf ops n0 E V M F) (id:Nat):∀ i,i≤ops.size →
  (M i)[id]? = jI (fun j=>touch F j id) (fun j=>(M (j+1))[id]?) ((M 0)[id]?) (fun _=>true) i∧(M i).length=jI (top F) (fun j=>(M (j+1)).length) (M 0).length (fun _=>true) i
 | 0,_=>⟨rfl,rfl⟩
 | i+1,hi=>by
  have ho:ops[i]? = some ops[i]:=Array.getElem?_eq_getElem (by omega)
  obtain⟨Jd,KX⟩:=run_store h id i (by omega)
  unfold jI
  simp only[Bool.true_and]
  rw[← Jd,← KX]
  cases hw:bD ops (E i) ops[i] with
  | false =>
   obtain⟨h1,h2,h3⟩:=h.no i _ ho hw
   rw[h2]
   simp
  | true =>
   have hs:=h.yes i _ ho hw
   cases mB:(F i).ids with
   | none =>
    have:=Nt hs mB
    simp[touch,top,mB,this]
   | some l =>
    obtain⟨w,w1,w2,w3⟩:=Nu hs mB
    constructor
    ·split
     ·rfl
     ·rename_i XU
      rw[w1,xE fun i b hw=>(w2 i b hw).2.2]
      cases w with
      | none=>rfl
      | some p =>
       obtain⟨i',b⟩:=p
       obtain⟨q1,q2,q3⟩:=w2 i' b rfl
       have hne:id≠i':=by
        rintro rfl
        apply XU
        simp[touch,q2,mB,q1]
       simp[hne]
    ·rw[w1,I8]
     simp[top,mB]
theorem Xc {b:Array Nat} {fs:List cu} (h:oG b fs=true) {i j:Nat} {f g:cu} (hi:fs[i]? = some f) (hj:fs[j]? = some g) (hne:i≠j) (hm:f.meets g=true):(b.getD j 0).testBit i=true∨(b.getD i 0).testBit j=true:=by
 unfold oG at h
 simp only[List.all_eq_true] at h
 have h1:=h (f,i) (by rw[List.mem_zipIdx_iff_getElem?]; exact hi) (g,j) (by rw[List.mem_zipIdx_iff_getElem?]; exact hj)
 have h2:(i==j)=false:=by simpa using hne
 simp only[h2,hm,Bool.not_true,Bool.or_false,Bool.false_or,Bool.or_eq_true] at h1
 exact h1
end Go.Di
end
