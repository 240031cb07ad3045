import Derived.Test.YtedcgbkilmlbhaaGreatPk24
import Derived.Orders
section
namespace Go.Di
open Go Go.Conc Go.Co
open Go.ConcN (sumTo sumTo_upd sumTo_congr le_sumTo upd upd_same upd_ne)
variable {P:Program} {aa:Machine→Trace→Prop} {ty:fI} {x:Cx} {aI:bM} {call:bz} {yf:eE}
def Closed (ops:Array Oper) (L:Nat→Bool):Prop:=∀ j o,ops[j]? = some o→L j=true→∀ e∈o.after,Region.binds .any e=true→L e.on=true
theorem tc {ops:Array Oper} (og:∀ i o,ops[i]? = some o→∀ e∈o.after,Region.binds .any e=true→e.on<i) {σ:Type} (T:List Nat→σ→Prop) (J:(Nat→Bool)→σ→Prop)
  (hop:∀ L s i o,J L s→Closed ops L→ops[i]? = some o→L i=false→(∀ e∈o.after,Region.binds .any e=true→L e.on=true)→∀ rest,(∀ s',J (upd L i true) s'→T rest s')→T (i::rest) s)
  (qF:∀ L s,J L s→(∀ i,i<ops.size→L i=true)→T [] s) (t:Nat) (s:σ) (h0:J (fun _=>false) s):T (Region.linearise .any ops t) s:=by
 have key:∀ (fuel t:Nat) (listed:Array Bool) (s:σ),listed.size=ops.size→sumTo ops.size (fun j=>if listed.getD j true then 0 else 1)=fuel→J (fun j=>listed.getD j false) s→Closed ops (fun j=>listed.getD j false)→T (Region.linearise.go .any ops fuel t listed []) s:=by
  intro fuel
  induction fuel with
  | zero =>
   intro t listed s hsz HF hJ _
   refine qF _ s hJ fun i hi => ?_
   have h1:=le_sumTo (f:=fun j=>if listed.getD j true then 0 else 1) hi
   rw[HF] at h1
   have h2:listed.getD i true=true:=by
    cases h:listed.getD i true with
    | true=>rfl
    | false=>simp[h] at h1
   simpa [bL (show i<listed.size by omega)] using h2
  | succ fuel ih =>
   intro t listed s hsz HF hJ qC
   simp only[Region.linearise.go]
   change T (match (Region.ready .any ops listed)[t % (Region.ready .any ops listed).length]? with
    | some i=>Region.linearise.go .any ops fuel (t / (Region.ready .any ops listed).length) (listed.setIfInBounds i true) [i]
    | none=>[].reverse) s
   cases hi:(Region.ready .any ops listed)[t % (Region.ready .any ops listed).length]? with
   | none =>
    have HH:Region.ready .any ops listed=[]:=by
     cases hr:Region.ready .any ops listed with
     | nil=>rfl
     | cons x xs =>
      rw[hr] at hi
      have hlt:t % (x::xs).length<(x::xs).length:=Nat.mod_lt _ (by simp)
      simp at hi
      simp at hlt
      omega
    refine qF _ s hJ fun i hi => ?_
    induction i using Nat.strongRecOn with
    | ind i ihi =>
     have Np:i<listed.size:=by omega
     cases hb:listed.getD i false with
     | true=>rfl
     | false =>
      have qp:i∈Region.ready .any ops listed:=by
       refine mem_ready.2 ⟨by simpa [bL Np] using hb,ops[i],bL hi,fun e he Y5 => ?_⟩
       have hlt:=og i _ (bL hi) e he Y5
       exact ihi e.on hlt (by omega)
      rw[HH] at qp
      cases qp
   | some i =>
    simp only[]
    rw[linearise_go_acc,List.reverse_singleton,List.singleton_append]
    have qp:=cW hi
    obtain⟨Zu,o,ho,ew⟩:=mem_ready.1 qp
    have YY:i<ops.size:=(aG.1 ho).1
    have Np:i<listed.size:=by omega
    have h2:(fun j=>(listed.setIfInBounds i true).getD j false)=upd (fun j=>listed.getD j false) i true:=by
     funext j
     by_cases fH:j=i
     ·subst fH
      rw[upd_same]
      simp[ji Np]
     ·rw[upd_ne _ _ fH,getD_set_ne false (Ne.symm fH)]
    refine hop _ s i o hJ qC ho (by simpa [bL Np] using Zu) (fun e he hb=>ew e he hb) _ fun s' hJ'=>ih _ _ s' (by simpa using hsz) ?_ (by rw[h2]; exact hJ') ?_
    ·have h1:=sumTo_upd (fun j=>listed.getD j true) true (fun b=>if b then 0 else 1) YY
     rw[Zu] at h1
     simp only[if_true,aD,if_false] at h1
     have h2:sumTo ops.size (fun j=>if (listed.setIfInBounds i true).getD j true then 0 else 1)=sumTo ops.size fun j=>if upd (fun j=>listed.getD j true) i true j then 0 else 1:=by
      refine sumTo_congr fun j _ => ?_
      by_cases fH:j=i
      ·subst fH
       rw[upd_same]
       simp[ji Np]
      ·rw[upd_ne _ _ fH,getD_set_ne true (Ne.symm fH)]
     rw[h2]
     omega
    ·rw[h2]
     intro j o' j6 hj e he hb
     by_cases fH:j=i
     ·subst fH
      rw[ho] at j6
      cases j6
      by_cases Jl:e.on=j
      ·rw[Jl,upd_same]
      ·rw[upd_ne _ _ Jl]; exact ew e he hb
     ·rw[upd_ne _ _ fH] at hj
      by_cases Jl:e.on=i
      ·rw[Jl,upd_same]
      ·rw[upd_ne _ _ Jl]; exact qC j o' j6 hj e he hb
 refine key ops.size t (Array.replicate ops.size false) s (by simp) ?_ ?_ ?_
 ·have:∀ n,n≤ops.size→sumTo n (fun j=>if (Array.replicate ops.size false).getD j true then 0 else 1)=n:=by
   intro n
   induction n with
   | zero=>intro _; rfl
   | succ n ih =>
    intro hn
    simp only[sumTo]
    rw[ih (by omega)]
    simp[show n<ops.size by omega]
  exact this _ (ai _)
 ·have:(fun j=>(Array.replicate ops.size false).getD j false)=fun _=>false:=by
   funext j
   simp[aT,Array.getElem?_replicate]
   split<;>rfl
  rw[this]
  exact h0
 ·intro j o _ hj
  exfalso
  revert hj
  simp[aT,Array.getElem?_replicate]
  split<;>simp
theorem rC (ops:Array Oper) {L:Nat→Bool} (hL:Closed ops L):∀ j i,((Region.before ops).getD j 0).testBit i=true→L j=true→L i=true:=by
 have key:∀ (l pre:List Oper) (acc:Array Nat),ops.toList=pre++l→acc.size=pre.length→(∀ j i,(acc.getD j 0).testBit i=true→L j=true→L i=true) →
   ∀ j i,((l.foldl (fun acc (o:Oper)=>acc.push (o.after.foldl (fun s e=>if Region.binds .any e then s ||| 2 ^ e.on ||| acc.getD e.on 0 else s) 0)) acc).getD j 0).testBit i=true→L j=true→L i=true:=by
  intro l
  induction l with
  | nil=>intro pre acc _ _ h; exact h
  | cons o l ih =>
   intro pre acc Dv hsz h
   simp only[List.foldl_cons]
   refine ih (pre++[o]) _ (by rw[Dv]; simp) (by simp[hsz]) fun j i ht hj => ?_
   have ho:ops[pre.length]? = some o:=by rw[← gy,Dv]; simp
   by_cases hjs:j<acc.size
   ·refine h j i ?_ hj
    rw[aT,Array.getElem?_push_lt hjs] at ht
    rw[aT,bL hjs]
    exact ht
   ·by_cases ZF:j=acc.size
    ·subst ZF
     rw[aT,Array.getElem?_push_size,Option.getD_some] at ht
     rw[hsz] at hj
     have ew:=hL _ _ ho hj
     have fold:∀ (es:List Edge) (s:Nat),(∀ e∈es,e∈o.after)→(s.testBit i=true→L i=true)→(es.foldl (fun s e=>if Region.binds .any e then s ||| 2 ^ e.on ||| acc.getD e.on 0 else s) s).testBit i=true→L i=true:=by
      intro es
      induction es with
      | nil=>intro s _ hs ht; exact hs ht
      | cons e es ihe =>
       intro s he hs ht
       simp only[List.foldl_cons] at ht
       refine ihe _ (fun e' h'=>he e' (by simp[h'])) (fun hb => ?_) ht
       split at hb
       ·rename_i Y5
        simp only[Nat.testBit_or,eP,Nat.testBit_two_pow,bJ] at hb
        rcases hb with (hb | hb) | hb
        ·exact hs hb
        ·rw[← hb]; exact ew e (he e (by simp)) Y5
        ·exact h _ _ hb (ew e (he e (by simp)) Y5)
       ·exact hs hb
     rw[← Array.foldl_toList] at ht
     exact fold o.after.toList 0 (by simp) (by simp) ht
    ·rw[aT,jR (by simp; omega)] at ht
     simp at ht
 intro j i
 unfold Region.before
 rw[← Array.foldl_toList]
 exact key ops.toList [] #[] rfl rfl (by simp) j i
theorem ku {ρ ρ':Operand→Option DV}:∀ {l:List Operand},(∀ a∈l,ρ a=ρ' a)→evs ρ l=evs ρ' l
 | [],_=>rfl
 | a::l,h=>by
  unfold evs
  rw[h a (by simp),ku fun b hb=>h b (by simp[hb])]
theorem rq {ρ ρ':Operand→Option DV}:∀ {l:List (Nat×Operand)},(∀ a∈l.map (·.2),ρ a=ρ' a)→iS ρ l=iS ρ' l
 | [],_=>rfl
 | (i,a)::l,h=>by
  unfold iS
  rw[h a (by simp),rq fun b hb=>h b (by simp at hb ⊢; exact .inr hb)]
theorem rB {ρ ρ':Operand→Option DV} {a:Option Operand} {d m:Nat} (h:∀ b∈a.toArray,ρ b=ρ' b):fU ρ a d m=fU ρ' a d m:=by
 cases a with
 | none=>rfl
 | some b=>simp only[fU,intOf,h b (by simp)]
theorem vO {ρ ρ':Operand→Option DV} {o:Oper} {S:ak} {ay:Nat} (h:∀ a∈o.op.operands,ρ a=ρ' a):af P ty aI call yf ρ o S ay=af P ty aI call yf ρ' o S ay:=by
 obtain⟨dst,op,type,pos,after,guard⟩:=o
 cases op<;>simp only[Op.operands,Call.operands] at h<;>try rfl
 case move a=>simp only[af,h a (by simp)]
 case assign a=>simp only[af,h a (by simp)]
 case pick a b c=>simp only[af,h a (by simp),h b (by simp),h c (by simp)]
 case box t a=>simp only[af,h a (by simp)]
 case build t ps =>
  have:=rq (ρ:=ρ) (ρ':=ρ') (l:=ps.toList) fun a ha=>h a (by simpa using ha)
  simp only[af,this]
 case buildSlice t n ps =>
  have:=rq (ρ:=ρ) (ρ':=ρ') (l:=ps.toList) fun a ha=>h a (by simpa using ha)
  simp only[af,this]
 case makeSlice t a b=>simp only[af,intOf,h a (by simp),h b (by simp)]
 case load t a=>simp only[af,h a (by simp)]
 case store t a v=>simp only[af,h a (by simp),h v (by simp)]
 case nilCheck a=>simp only[af,h a (by simp)]
 case binOp op t a b u=>simp only[af,valOf,h a (by simp),h b (by simp)]
 case unOp op t a=>simp only[af,valOf,h a (by simp)]
 case convert s d a=>simp only[af,valOf,h a (by simp)]
 case makeFunc fn fs cs =>
  cases fn with
  | func f=>simp only[af,ku (ρ:=ρ) (ρ':=ρ') (l:=fs.toList) fun a ha=>h a (by simp at ha ⊢; exact .inl ha),ku (ρ:=ρ) (ρ':=ρ') (l:=cs.toList) fun a ha=>h a (by simp at ha ⊢; exact .inr ha)]
  | _=>rfl
 case makeMap t r=>cases r<;>rfl
 case slice t a lo hi mx =>
  have h1:ρ a=ρ' a:=h a (by simp)
  have h2:=fun d m=>rB (ρ:=ρ) (ρ':=ρ') (a:=lo) (d:=d) (m:=m) fun b hb=>h b (by simp at hb ⊢; simp[hb])
  have h3:=fun d m=>rB (ρ:=ρ) (ρ':=ρ') (a:=hi) (d:=d) (m:=m) fun b hb=>h b (by simp at hb ⊢; simp[hb])
  have h4:=fun d m=>rB (ρ:=ρ) (ρ':=ρ') (a:=mx) (d:=d) (m:=m) fun b hb=>h b (by simp at hb ⊢; simp[hb])
  simp only[af,h1,h2,h3,h4]
 case fieldAddr t a f=>simp only[af,h a (by simp)]
 case field t a f=>simp only[af,h a (by simp)]
 case indexAddr t a i=>simp only[af,intOf,h a (by simp),h i (by simp)]
 case index t a i=>simp only[af,intOf,h a (by simp),h i (by simp)]
 case lookup t a i ok=>simp only[af,valOf,h a (by simp),h i (by simp)]
 case mapUpdate t m k v=>simp only[af,valOf,h m (by simp),h k (by simp),h v (by simp)]
 case extract a i=>simp only[af,h a (by simp)]
 case call c =>
  obtain⟨callee,args,ats⟩:=c
  cases callee with
  | builtin b =>
   simp only[Array.empty_append] at h
   have h1:∀ a∈args.toList,ρ a=ρ' a:=fun a ha=>h a (by simpa using ha)
   have h2:=ku h1
   simp only[af]
   generalize args.toList=l at h1 h2
   generalize ats.toList=m
   cases b<;>try rfl
   ·match l,m with
    | [a,c],[t,u]=>simp only[h1 a (by simp),h1 c (by simp)]
    | [],_=>rfl
    | [_],_=>rfl
    | _::_::_::_,_=>rfl
    | [_,_],[]=>rfl
    | [_,_],[_]=>rfl
    | [_,_],_::_::_::_=>rfl
   ·match l,m with
    | [a],[t]=>simp only[h1 a (by simp)]
    | [],_=>rfl
    | _::_::_,_=>rfl
    | [_],[]=>rfl
    | [_],_::_::_=>rfl
   ·simp only[h2]
   ·simp only[h2]
  | value f =>
   have h1:ρ f=ρ' f:=h f (by simp)
   have h2:=ku (ρ:=ρ) (ρ':=ρ') (l:=args.toList) fun a ha=>h a (by simp at ha ⊢; exact .inr ha)
   simp only[af,h1,h2]
  | invoke r m=>rfl
end Go.Di
end
section
namespace Go.Di
open Go Go.Conc Go.Co
open Go.ConcN (sumTo sumTo_upd sumTo_congr le_sumTo upd upd_same upd_ne)
variable {P:Program} {aa:Machine→Trace→Prop} {ty:fI} {x:Cx} {aI:bM} {call:bz} {yf:eE}
def FA (ops:Array Oper):Prop:=∀ i o,ops[i]? = some o→∀ e∈o.after,Region.binds .any e=true→e.on<i
theorem Da {ops:Array Oper} (og:FA ops) {i j:Nat} (hne:i≠j) (h:((Region.before ops).getD j 0).testBit i=true):i<j:=by
  have qC:Closed ops fun k=>decide (k≤j):=by
    intro k o ho hk e he hb
    have:=og k o ho e he hb
    simp only[bJ] at hk ⊢
    omega
  have:=rC ops qC j i h (by simp)
  simp only[bJ] at this
  omega
theorem Ka {ops:Array Oper} (og:FA ops) {L:Nat→Bool} (hL:Closed ops L) {i j:Nat} {o:Oper} (ho:ops[i]? = some o) (hi:L i=false) (uF:∀ e∈o.after,Region.binds .any e=true→L e.on=true) (hne:i≠j)
    (h:((Region.before ops).getD j 0).testBit i=true∨((Region.before ops).getD i 0).testBit j=true):L j=true↔j<i:=by
  rcases h with h | h
  · have h1:=Da og hne h
    refine⟨fun hj => ?_,fun hj=>by omega⟩
    have:=rC ops hL j i h hj
    rw[hi] at this
    cases this
  · have h1:=Da og (Ne.symm hne) h
    refine⟨fun _=>h1,fun _ => ?_⟩
    have qC:Closed ops (upd L i true):=by
      intro k o' j6 hk e he hb
      by_cases MS:k=i
      · subst MS
        rw[ho] at j6
        cases j6
        by_cases Jl:e.on=k
        · rw[Jl,upd_same]
        · rw[upd_ne _ _ Jl]; exact uF e he hb
      · rw[upd_ne _ _ MS] at hk
        by_cases Jl:e.on=i
        · rw[Jl,upd_same]
        · rw[upd_ne _ _ Jl]; exact hL k o' j6 hk e he hb
    have:=rC ops qC i j h (upd_same _ _ _)
    rwa [upd_ne _ _ (Ne.symm hne)] at this
def nu (ops:Array Oper) (j:Nat) (t:Tmp):Bool:=match ops[j]? with
  | some o=>o.dst==some t
  | none=>false
def kS (ops:Array Oper) (V:Nat→DV) (L:Nat→Bool) (t:Tmp):Nat→Option DV
  | 0=>none
  | n+1=>if L n&&nu ops n t then some (V n) else kS ops V L t n
theorem jB {ops:Array Oper} {V:Nat→DV} {L:Nat→Bool} {t:Tmp} {i:Nat}:∀ {n:Nat},i≤n→(∀ j,j<n→nu ops j t=true→(L j=true↔j<i))→kS ops V L t n=kS ops V (fun _=>true) t i
  | 0,h,_=>by
    have:i=0:=by omega
    subst this; rfl
  | n+1,h,hj=>by
    by_cases nk:i=n+1
    · subst nk
      unfold kS
      by_cases hd:nu ops n t=true
      · have:=(hj n (by omega) hd).2 (by omega)
        simp only[this,hd,fP,if_true]
      · simp only[aB,hd,and_false,if_false,aD]
        exact jB (ai _) fun j h1 h2=>⟨fun _=>h1,fun _=>(hj j (nF h1) h2).2 (nF h1)⟩
    · have hle:i≤n:=by omega
      rw[← jB hle fun j h1 h2=>hj j (by omega) h2]
      conv=>lhs; unfold kS
      by_cases hd:nu ops n t=true
      · have:L n=false:=by
          cases hLn:L n with
          | false=>rfl
          | true=>have:=(hj n (by omega) hd).1 hLn; omega
        rw[this]
        simp
      · simp[hd]
theorem ym {ops:Array Oper} {V:Nat→DV} {L:Nat→Bool} {t:Tmp} {i:Nat} (hd:nu ops i t=false):∀ n,kS ops V (upd L i true) t n=kS ops V L t n
  | 0=>rfl
  | n+1=>by
    unfold kS
    rw[ym hd n]
    by_cases h:n=i
    · subst h; simp[hd]
    · rw[upd_ne _ _ h]
def Ck (ops:Array Oper) (V:Nat→DV) (L:Nat→Bool) (n:Nat) (ade env:List DV):Prop:=∀ t,env[t]? = (ade[t]?).map fun d=>(kS ops V L t n).getD d
theorem FW (env:List DV) (dst:Option Tmp) (v:DV) (t:Tmp):(iM env dst v)[t]? = if dst=some t then (env[t]?).map fun _=>v else env[t]? := by
  cases dst with
  | none=>simp[iM]
  | some d =>
    simp only[iM,aK,az]
    by_cases h:d=t
    · subst h
      by_cases hl:d<env.length
      · simp[hl]
      · simp[hl]
    · simp[h]
def JH (ops:Array Oper) (V:Nat→DV) (E:Nat→List DV):Prop:=∀ j o,ops[j]? = some o→E (j+1)=iM (E j) o.dst (V j)
theorem zc {ops:Array Oper} {V:Nat→DV} {E:Nat→List DV} (h:JH ops V E):∀ i,i≤ops.size→Ck ops V (fun _=>true) i (E 0) (E i)
  | 0,_=>fun t=>by simp[kS]
  | i+1,hi=>fun t=>by
    have ho:ops[i]? = some ops[i]:=bL (by omega)
    have ih:=zc h i (by omega) t
    rw[h i _ ho,FW]
    unfold kS
    have hd:nu ops i t=(ops[i].dst==some t):=by unfold nu; rw[ho]
    by_cases Rt:ops[i].dst=some t
    · simp only[Rt,if_true,hd,beq_self_eq_true,fP,Option.getD_some,ih,Option.map_map]
      rfl
    · have:(ops[i].dst==some t)=false:=by simpa using Rt
      simp only[Rt,if_false,hd,this,lX,aD]
      exact ih
theorem C3 {ops:Array Oper} {V:Nat→DV} {E:Nat→List DV} {L:Nat→Bool} {env:List DV} {i:Nat} {o:Oper} (ho:ops[i]? = some o) (hE:Ck ops V L ops.size (E 0) env)
    (abp:∀ t,o.dst=some t→∀ j,j<ops.size→nu ops j t=true→(upd L i true j=true↔j<i+1)):Ck ops V (upd L i true) ops.size (E 0) (iM env o.dst (V i)):=by
  intro t
  have hi:i<ops.size:=(aG.1 ho).1
  rw[FW]
  have hd:nu ops i t=(o.dst==some t):=by unfold nu; rw[ho]
  by_cases Rt:o.dst=some t
  · have e:kS ops V (fun _=>true) t (i+1)=some (V i):=by unfold kS; simp[hd,Rt]
    rw[if_pos Rt,jB (i:=i+1) (by omega) (abp t Rt),hE t,e]
    simp[Function.comp_def]
  · have h2:nu ops i t=false:=by rw[hd]; simpa using Rt
    rw[if_neg Rt,ym h2]
    exact hE t
theorem yg {ops:Array Oper} (og:FA ops) (Dh:jK ops (Region.before ops)=true) {V:Nat→DV} {E:Nat→List DV} (hS:JH ops V E) {L:Nat→Bool} (hL:Closed ops L) {env:List DV} (hE:Ck ops V L ops.size (E 0) env) {i:Nat} {o:Oper} (ho:ops[i]? = some o) (hi:L i=false)
    (uF:∀ e∈o.after,Region.binds .any e=true→L e.on=true):(∀ t∈jM ops o,env[t]? = (E i)[t]?)∧∀ t,o.dst=some t→∀ j,j<ops.size→nu ops j t=true→(upd L i true j=true↔j<i+1):=by
  have YY:i<ops.size:=(aG.1 ho).1
  have hx:∀ t∈jM ops o,∀ j,j<ops.size→j≠i→nu ops j t=true→(L j=true↔j<i):=by
    intro t ht j hj hne hd
    have hoj:ops[j]? = some ops[j]:=bL hj
    have MT:ops[j].dst=some t:=by unfold nu at hd; rw[hoj] at hd; simpa using hd
    refine Ka og hL ho hi uF (Ne.symm hne) ?_
    unfold jK at Dh
    simp only[aB,aW] at Dh
    have h1:=Dh.2 (o,i) (by rw[rU]; simpa using ho) (ops[j],j) (by rw[rU]; simp)
    simp only[MT] at h1
    have hc:(jM ops o).contains t=true:=by simpa using ht
    simp only[hc,eO,Bool.or_false,eP,cV] at h1
    rcases h1 with (h1 | h1) | h1
    · exact absurd h1.symm hne
    · exact .inl h1
    · exact .inr h1
  constructor
  · intro t ht
    rw[hE t,zc hS i (by omega) t]
    congr 1
    funext d
    rw[jB (i:=i) (by omega) fun j hj hd => ?_]
    by_cases fH:j=i
    · subst fH; simp[hi]
    · exact hx t ht j hj fH hd
  · intro t ht j hj hd
    by_cases fH:j=i
    · subst fH; simp[upd_same]
    · rw[upd_ne _ _ fH,hx t (by simp[jM,ht]) j hj fH hd]
      omega
theorem C1 {ops:Array Oper} {o:Oper} {env aC:List DV} (h:∀ t∈jM ops o,env[t]? = aC[t]?):∀ a∈o.op.operands,gX env a=gX aC a:=by
  intro a ha
  cases a with
  | tmp t =>
    have:t∈jM ops o:=by
      unfold jM
      simp only[jO]
      left; right
      rw[List.mem_filterMap]
      exact⟨.tmp t,by simpa using ha,rfl⟩
    simp only[gX,aO,h t this]
  | _=>rfl
theorem vJ {ops:Array Oper} {o:Oper} {env aC:List DV} (h:∀ t∈jM ops o,env[t]? = aC[t]?):bQ ops env o=bQ ops aC o:=by
  unfold bQ
  cases hg:o.guard with
  | none=>rfl
  | some g =>
    obtain⟨j,want⟩:=g
    simp only
    cases hb:(ops[j]?).bind (·.dst) with
    | none=>rfl
    | some t =>
      have:t∈jM ops o:=by
        unfold jM
        rw[hg]
        simp[hb]
      simp only[h t this]
theorem F0 {ops:Array Oper} (h:jK ops (Region.before ops)=true):FA ops:=by
  intro i o ho e he hb
  unfold jK at h
  simp only[aB,aW,Array.all_eq_true'] at h
  have h1:=h.1 (o,i) (by rw[rU]; simpa using ho) e he
  simpa [hb] using h1
theorem FR {ops:Array Oper} {S:ak}:∀ {r:List Oper} {env aC:List DV},nN P ty aI call yf ops S r env=some aC→∃ (E:Nat→List DV) (V:Nat→DV),E 0=env∧E r.length=aC ∧
    ∀ j o,r[j]? = some o→E (j+1)=iM (E j) o.dst (V j)∧(bQ ops (E j) o=true→cF P ty aI call yf (gX (E j)) o S=some (V j))∧(bQ ops (E j) o=false→V j=aX)
  | [],env,aC,h=>by
    simp only[nN,az] at h
    exact⟨fun _=>env,fun _=>aX,rfl,h,by simp⟩
  | o::r,env,aC,h=>by
    unfold nN at h
    have key:∀ v,nN P ty aI call yf ops S r (iM env o.dst v)=some aC→(bQ ops env o=true→cF P ty aI call yf (gX env) o S=some v)→(bQ ops env o=false→v=aX)→∃ (E:Nat→List DV) (V:Nat→DV),E 0=env∧E (o::r).length=aC ∧
        ∀ j o',(o::r)[j]? = some o'→E (j+1)=iM (E j) o'.dst (V j)∧(bQ ops (E j) o'=true→cF P ty aI call yf (gX (E j)) o' S=some (V j))∧(bQ ops (E j) o'=false→V j=aX):=fun v h1 h2 h3=>by
      obtain⟨E,V,e1,e2,e3⟩:=FR h1
      refine⟨fun n=>match n with | 0=>env | n+1=>E n,fun n=>match n with | 0=>v | n+1=>V n,rfl,by simpa using e2,fun j o' j6 => ?_⟩
      cases j with
      | zero =>
        simp only[List.getElem?_cons_zero,az] at j6
        subst j6
        exact⟨e1,h2,h3⟩
      | succ j=>exact e3 j o' (by simpa using j6)
    split at h
    · rename_i hw
      split at h
      · rename_i v h1
        exact key v h (fun _=>h1) fun hf=>by rw[hw] at hf; cases hf
      · cases h
    · rename_i hw
      exact key aX h (fun ht=>absurd ht hw) fun _=>rfl
theorem quiet_step {ρ:Operand→Option DV} {o:Oper} {S:ak} {v:DV} (h:cF P ty aI call yf ρ o S=some v):af P ty aI call yf ρ o S S.length=some (v,S):=by
  obtain⟨dst,op,type,pos,after,guard⟩:=o
  have gen:∀ {q:Option (DV×ak)},q.map (·.1)=some v→(∀ d S',q=some (d,S')→S'=S)→q=some (v,S):=by
    intro q hq hs
    simp only[ah] at hq
    obtain⟨⟨d,S'⟩,h1,rfl⟩:=hq
    rw[h1,hs d S' h1]
  have mp:∀ {β:Type} {q:Option β} {f:β→DV} {d:DV} {S':ak},q.map (fun c=>(f c,S))=some (d,S')→S'=S:=by
    intro β q f d S' hq
    simp only[ah,av] at hq
    obtain⟨_,_,_,h⟩:=hq
    exact h.symm
  cases op<;>simp only[cF] at h
  case call c =>
    obtain⟨callee,args,ats⟩:=c
    cases callee with
    | builtin b =>
      cases b<;>simp only at h<;>first | cases h | skip
      all_goals
        refine gen h fun d S' hq => ?_
        simp only[af] at hq
        repeat' split at hq
        all_goals first | contradiction | exact mp (f:=id) hq | exact mp hq | (cases hq; rfl) | (cases hq; done) | skip
    | value f =>
      simp only at h
      split at h
      · rename_i g fs cs xs hf MN
        split at h
        · cases h
        rename_i hh
        split at h
        · rename_i hp
          simp only[af,hf,MN,uU,hp,if_true,h]
        · cases h
      · cases h
    | invoke r m=>simp[af] at h
  case buildSlice t n ps =>
    split at h
    · cases h
    · rename_i hh
      refine gen h fun d S' hq => ?_
      simp only[af] at hq
      repeat' split at hq
      all_goals first | contradiction | (cases hq; first | rfl | contradiction)
  all_goals first
    | cases h
    | (refine gen h fun d S' hq => ?_
       simp only[af] at hq
       repeat' split at hq
       all_goals first | contradiction | exact mp (f:=id) hq | exact mp hq | (cases hq; rfl) | (cases hq; done) | skip)
theorem GO {ρ ρ':Operand→Option DV} {o:Oper} {S:ak} (h:∀ a∈o.op.operands,ρ a=ρ' a):cF P ty aI call yf ρ o S=cF P ty aI call yf ρ' o S:=by
  have hs:=vO (P:=P) (ty:=ty) (aI:=aI) (call:=call) (yf:=yf) (S:=S) (ay:=S.length) h
  unfold cF
  split<;>try rfl
  · rw[hs]
  · rename_i f args ats hop
    rw[hop] at h
    have h1:ρ f=ρ' f:=h f (by simp[Op.operands,Call.operands])
    have h2:=ku (ρ:=ρ) (ρ':=ρ') (l:=args.toList) fun a ha=>h a (by simp[Op.operands,Call.operands] at ha ⊢; exact .inr ha)
    rw[h1,h2]
  · rw[hs]
theorem IA (hP:Plain P) (ee:iO P ty) (hc:gL P aa call) (hi:xZ P aa aI) (Hq:xY P aa yf) {ops:Array Oper} {b:Frame} {k:List Item} {cs:List Frame} (hk:b.kind ≠ .early) (Dh:jK ops (Region.before ops)=true)
    {env aC:List DV} {a:Act} (h:nN P ty aI call yf ops x.S ops.toList env=some aC) (hR:Rel x) (he:fR x env a.tmps)
    (hn:∀ y a',y.S=x.S→Rel y→bE x y→fR y aC a'.tmps→a'.defers=a.defers→gM P aa () (G (b.atR a' k) cs) y.w) (t:Nat):gM P aa () (G (b.atR a (.inRegion ops (Region.linearise .any ops t)::k)) cs) x.w:=by
  have og:=F0 Dh
  obtain⟨E,V,e1,e2,e3⟩:=FR h
  have Dv:∀ (j:Nat) (o:Oper),ops[j]? = some o→ops.toList[j]? = some o:=fun j o ho=>by simpa using ho
  have hS:JH ops V E:=fun j o ho=>(e3 j o (Dv j o ho)).1
  refine tc og (σ:=Act×Cx) (fun todo s=>s.2.S=x.S→Rel s.2→bE x s.2→s.1.defers=a.defers→gM P aa () (G (b.atR s.1 (.inRegion ops todo::k)) cs) s.2.w)
    (fun L s=>∃ nR,fR s.2 nR s.1.tmps∧Ck ops V L ops.size (E 0) nR) ?_ ?_ t (a,x) ⟨env,he,fun t => ?_⟩ rfl hR (bE.refl x) rfl
  · rintro L ⟨a1,y⟩ i o ⟨nR,wh,RA⟩ qC ho hLi uF rest zL Y7 EI Nw Hv
    simp only at wh Y7 EI Nw Hv ⊢
    obtain⟨q1,q2⟩:=yg og Dh hS qC RA ho hLi uF
    have hw:=vJ q1
    have QW:=wP wh ops o
    have ZU:=C3 (V:=V) ho RA q2
    by_cases V1:bQ ops (E i) o=true
    · have hq:=(e3 i o (Dv i o ho)).2.1 V1
      rw[← GO (C1 q1),← Y7] at hq
      refine Oa hP ee hc hi Hq hk ho (by rw[QW,hw]; exact V1) EI (.inl rfl) wh (quiet_step hq) fun z u zS zR zM zV => ?_
      have mE:=wD (wh.mono zM) (dst:=o.dst) zV
      exact zL (a1.put o.dst u,z) ⟨_,mE.1,ZU⟩ (zS.trans Y7) zR (Nw.trans zM) (mE.2.trans Hv)
    · have V2:bQ ops (E i) o=false:=by simpa using V1
      have hv:=(e3 i o (Dv i o ho)).2.2 V2
      have mE:=wD wh (dst:=o.dst) (d:=V i) (v:=undef) (by rw[hv]; exact .val rfl)
      exact eH hP (fun w=>⟨_,rm ho (by rw[QW,hw]; exact V2)⟩) (zL (a1.put o.dst undef,y) ⟨_,mE.1,ZU⟩ Y7 EI Nw (mE.2.trans Hv))
  · rintro L ⟨a1,y⟩ ⟨nR,wh,RA⟩ ew Y7 EI Nw Hv
    have:nR=aC:=by
      refine lZ fun t => ?_
      have hlen:E ops.size=aC:=by simpa using e2
      rw[RA t,← hlen,zc hS ops.size (ai _) t]
      congr 1
      funext d
      rw[jB (i:=ops.size) (ai _) fun j hj _=>by simp[ew j hj,hj]]
    subst this
    exact eH hP (fun w=>⟨_,nX⟩) (hn y a1 Y7 EI Nw wh Hv)
  · rw[e1]
    have:∀ n,kS ops V (fun _=>false) t n=none:=by
      intro n
      induction n with
      | zero=>rfl
      | succ n ih=>unfold kS; simp[ih]
    rw[this]
    simp
end Go.Di
end
section
namespace Go.Di
open Go Go.Conc Go.Co
open Go.ConcN (upd upd_same upd_ne)
variable {P:Program} {aa:Machine→Trace→Prop} {ty:fI} {x:Cx} {aI:bM} {call:bz} {yf:eE}
def appW (w:Option (Nat×DB)) (S:ak):ak:=match w with
 | none=>S
 | some (i,b)=>S.set i b
theorem ny {S:ak} {i:Nat} (h:i<S.length) (b:DB):dP S i b=S.set i b:=by unfold dP; rw[if_pos h]
theorem fF {S:ak} {i:Nat} {b:DB} (h:S[i]? = some b):i<S.length:=(aJ.1 h).1
def rV:Op→Prop
 | .alloc _ | .box .. | .makeMap .. | .load .. | .store .. | .lookup .. | .mapUpdate .. | .makeSlice .. | .buildSlice .. | .fieldAddr .. | .indexAddr .. => False
 | .call { callee := .builtin .append,.. }=>False
 | .call { callee := .builtin _,.. }=>True
 | .call _=>False
 | _=>True
theorem map_fst {β:Type} (q:Option β) (f:β→DV) (S T:ak):q.map (fun c=>(f c,S))=((q.map (fun c=>(f c,T))).map (·.1)).map (·,S):=by cases q<;>rfl
theorem A7 {ρ:Operand→Option DV} {o:Oper} (hop:rV o.op) (S:ak) (ay:Nat):af P ty aI call yf ρ o S ay=((af P ty aI call yf ρ o [] 0).map (·.1)).map (·,S):=by
 obtain⟨dst,op,type,pos,after,guard⟩:=o
 cases op<;>simp only[rV] at hop
 case call c =>
  obtain⟨callee,args,ats⟩:=c
  cases callee with
  | builtin b =>
   simp only[af]
   generalize args.toList=l
   generalize ats.toList=m
   split
   ·split<;>first | rfl | exact map_fst (f:=id) _ S []
   ·exact hop.elim
   ·split<;>first | rfl | exact map_fst (f:=id) _ S []
   ·split<;>first | rfl | exact map_fst (f:=id) _ S []
   ·rfl
  | value f=>exact hop.elim
  | invoke r m=>exact hop.elim
 case makeFunc fn fs cs=>cases fn<;>simp only[af]<;>(repeat' split)<;>rfl
 all_goals simp only[af]
 all_goals (repeat' split)
 all_goals first
  | rfl
  | exact map_fst (f:=id) _ S []
  | exact map_fst _ _ S []
theorem Au {ρ:Operand→Option DV} {o:Oper} (hop:rV o.op) {S S':ak} {ay:Nat} {v:DV} (h:af P ty aI call yf ρ o S ay=some (v,S')):S'=S∧∀ T ni,af P ty aI call yf ρ o T ni=some (v,T):=by
 rw[A7 hop] at h
 simp only[ah,av] at h
 obtain⟨d,h1,h2,h3⟩:=h
 refine⟨h3.symm,fun T ni => ?_⟩
 rw[A7 hop]
 simp only[ah,av]
 exact⟨d,h1,h2,trivial⟩
structure Eff (P:Program) (ty:fI) (aI:bM) (call:bz) (yf:eE) (ρ:Operand→Option DV) (o:Oper) (S:ak) (ay:Nat) (v:DV) (S':ak) (f:cT) (F:List Nat) (w:Option (Nat×DB)):Prop where
 res:S'=appW w S
 Dy:∀ i b,w=some (i,b)→i∈F∧f.wr=true∧i<S.length
 loc:∀ T,(F≠[]→T.length=S.length)→(∀ x∈F,T[x]? = S[x]?)→aF P ty aI call yf ρ o T ay=some (v,appW w T,f)
theorem Mq {S T:ak} {t:TypeId} {id off:Nat} (h:T[id]? = S[id]?):jr ty T t (.ptr id off)=jr ty S t (.ptr id off):=by
 unfold jr
 cases ty t with
 | none=>rfl
 | some d=>simp only[h]
theorem IP {S T:ak} {t:TypeId} {rows:List DV} {i off:Nat}:jr ty T t (.ey rows i off)=jr ty S t (.ey rows i off):=by unfold jr; cases ty t<;>rfl
theorem DF {S T:ak} {id n:Nat} (h:T[id]? = S[id]?):yW T id n=yW S id n:=by unfold yW; rw[h]
theorem IM {S T:ak} {t:TypeId} {id n off:Nat} (h:T[id]? = S[id]?):jr ty T t (.eT id n off)=jr ty S t (.eT id n off):=by
 unfold jr
 cases ty t with
 | none=>rfl
 | some d=>simp only[DF h]
theorem oL {ρ:Operand→Option DV} {dst:Option Tmp} {t type:TypeId} {a:Operand} {f:Nat} {pos:String} {after:Array Edge} {guard:Option (Nat×Bool)} {S S' T:ak} {ay:Nat} {v:DV} (hT:∀ id n off,ρ a=some (.eT id n off)→T[id]? = S[id]?)
  (h:af P ty aI call yf ρ ⟨dst,.fieldAddr t a f,type,pos,after,guard⟩ S ay=some (v,S')):S'=S∧∀ ni,af P ty aI call yf ρ ⟨dst,.fieldAddr t a f,type,pos,after,guard⟩ T ni=some (v,T):=by
 simp only[af] at h ⊢
 split at h
 ·rename_i hk ha
  split at h
  ·rename_i hf
   split at h
   ·rename_i hs
    cases h
    exact⟨rfl,fun _=>by simp only[hk,ha,hf,if_pos hs]⟩
   ·cases h
  ·cases h
 ·rename_i hk ha
  split at h
  ·rename_i hf
   split at h
   ·rename_i hs
    cases h
    exact⟨rfl,fun _=>by simp only[hk,ha,hf,if_pos hs]⟩
   ·cases h
  ·cases h
 ·rename_i hk ha
  split at h
  ·rename_i hf hop
   split at h
   ·rename_i hs
    cases h
    exact⟨rfl,fun _=>by simp only[hk,ha,hf,DF (hT _ _ _ ha),hop,if_pos hs]⟩
   ·cases h
  ·cases h
 ·cases h
theorem oJ {ρ:Operand→Option DV} {dst:Option Tmp} {t type:TypeId} {a i:Operand} {pos:String} {after:Array Edge} {guard:Option (Nat×Bool)} {S S' T:ak} {ay:Nat} {v:DV} (hT:∀ id n ag,ρ a=some (.gV id n ag)→T[id]? = S[id]?)
  (h:af P ty aI call yf ρ ⟨dst,.indexAddr t a i,type,pos,after,guard⟩ S ay=some (v,S')):S'=S∧∀ ni,af P ty aI call yf ρ ⟨dst,.indexAddr t a i,type,pos,after,guard⟩ T ni=some (v,T):=by
 simp only[af] at h ⊢
 split at h
 ·rename_i hk ha hi
  split at h
  ·rename_i h0
   split at h
   ·rename_i r hr
    split at h
    ·rename_i hs
     cases h
     exact⟨rfl,fun _=>by simp only[hk,ha,hi,if_pos h0,hr,if_pos hs]⟩
    ·cases h
   ·cases h
  ·cases h
 ·rename_i hk ha hi
  split at h
  ·rename_i h0
   cases h
   exact⟨rfl,fun _=>by simp only[hk,ha,hi,if_pos h0]⟩
  ·cases h
 ·rename_i hk ha hi
  split at h
  ·rename_i h0
   cases h
   exact⟨rfl,fun _=>by simp only[hk,ha,hi,if_pos h0]⟩
  ·cases h
 ·rename_i hk ha hi
  split at h
  ·rename_i hop
   split at h
   ·rename_i h0
    cases h
    exact⟨rfl,fun _=>by simp only[hk,ha,hi,DF (hT _ _ _ ha),hop,if_pos h0]⟩
   ·cases h
  ·cases h
 ·cases h
theorem C9 {ρ:Operand→Option DV} {o:Oper} {t:TypeId} {n:Nat} {ps:Array (Nat×Operand)} {S S':ak} {ay:Nat} {v:DV} (ho:o.op = .buildSlice t n ps) (hh:ty.h o≠1)
  (h:af P ty aI call yf ρ o S ay=some (v,S')):S'=S∧∀ (T:ak) (ni:Nat),af P ty aI call yf ρ o T ni=some (v,T):=by
 simp only[af,ho] at h ⊢
 split at h
 ·rename_i hk hl
  split at h
  ·rename_i he
   split at h
   ·rename_i hc
    split at h
    ·rename_i hf
     split at h
     ·rename_i hp
      cases h
      exact⟨rfl,fun T ni=>by simp only[if_pos hc,if_pos hp]⟩
     ·cases h
    ·cases h
   ·cases h
  ·cases h
 ·cases h
theorem G8 {S S':ak} {ay:Nat} {t:TypeId} {a b v:DV} (h:iE ty S ay t a b=some (v,S')) (hn:ay<S.length):∃ w,S'=appW w S∧(∀ i c,w=some (i,c)→(i=ay∨∃ r tk f,a = .sl r (some tk) f∧i=tk)∧i<S.length) ∧
  ∀ T:ak,T.length=S.length→(∀ r tk f,a = .sl r (some tk) f→T[tk]? = S[tk]?)→iE ty T ay t a b=some (v,appW w T):=by
 unfold iE at h ⊢
 split at h
 ·rename_i e s jZ agg sz z rows tok full news Dp VG UF
  split at h
  ·rename_i sM
   cases h
   exact⟨none,rfl,by simp,fun T _ _=>by simp only[sM,if_true]; rfl⟩
  ·rename_i sM
   split at h
   ·rename_i hte
    split at h
    ·rename_i hc
     cases tok with
     | none =>
      simp only at h
      split at h
      ·rename_i hf
       cases h
       refine⟨some (ay,.tail e s ((rows.length+news.length)*s)),ny hn _,fun i c hw => ?_,fun T hT _ => ?_⟩
       ·cases hw; exact⟨.inl rfl,hn⟩
       ·simp only[sM,hc,hf,if_true,aD,if_false]
        rw[ny (by omega)]
        rfl
      ·cases h
     | some tk =>
      simp only at h
      split at h
      ·rename_i e' s' n' hS
       split at h
       ·rename_i wu
        cases h
        refine⟨some (tk,.tail e s ((rows.length+news.length)*s)),rfl,fun i c hw => ?_,fun T hT hl => ?_⟩
        ·cases hw; exact⟨.inr ⟨rows,tk,full,rfl,rfl⟩,fF hS⟩
        ·have ZR:T[tk]? = some (.tail e' s' n'):=(hl rows tk full rfl).trans hS
         simp only[sM,hc,ZR,wu,if_true,aD,if_false]
         rfl
       ·cases h
      ·cases h
    ·cases h
   ·cases h
 ·cases h
theorem Mg {g:FuncId} {args:List DV} {S:ak} {i:Nat} {v:DV} {l:List DV} (h:xP call g args S=some (i,v,l)):i<S.length∧∀ T:ak,T[i]? = S[i]? → xP call g args T=some (i,v,l):=by
 unfold xP at h ⊢
 split at h
 ·rename_i j off rest
  split at h
  ·rename_i l0 hj
   split at h
   ·rename_i hc
    split at h
    ·rename_i v2 l' T2 kU
     split at h
     ·rename_i hq
      cases h
      refine⟨fF hj,fun T hT => ?_⟩
      rw[hj] at hT
      simp only[hT,if_pos hc,kU,if_pos hq]
     ·cases h
    ·cases h
   ·cases h
  ·cases h
 ·cases h
theorem Mc {g:FuncId} {args:List DV} {S S':ak} {k ay:Nat} {v:DV} (h:uN call k ay g args S=some (v,S')):∃ b,S[ay]? = some .none∧S'=S.set ay b∧∀ T:ak,T[ay]? = some .none→uN call k ay g args T=some (v,T.set ay b):=by
 unfold uN at h ⊢
 split at h
 ·rename_i l e rows hn ho
  cases h
  exact⟨_,hn,rfl,fun T hT=>by rw[hT,ho]⟩
 ·cases h
theorem O7 {ρ:Operand→Option DV} {o:Oper} {S S':ak} {ay:Nat} {v:DV} {f:cT} (h:aF P ty aI call yf ρ o S ay=some (v,S',f)) {F:List Nat} (hF:f.ids=some F):∃ w,Eff P ty aI call yf ρ o S ay v S' f F w:=by
 obtain⟨dst,op,type,pos,after,guard⟩:=o
 have plain:∀ (hop:rV op),(af P ty aI call yf ρ ⟨dst,op,type,pos,after,guard⟩ S ay).map (fun r=>(r.1,r.2,(⟨some [],false⟩:cT)))=some (v,S',f)→(∀ T,aF P ty aI call yf ρ ⟨dst,op,type,pos,after,guard⟩ T ay=(af P ty aI call yf ρ ⟨dst,op,type,pos,after,guard⟩ T ay).map (fun r=>(r.1,r.2,(⟨some [],false⟩:cT))))→∃ w,Eff P ty aI call yf ρ ⟨dst,op,type,pos,after,guard⟩ S ay v S' f F w:=by
  intro hop h1 h2
  simp only[ah,av] at h1
  obtain⟨⟨d,S1⟩,h3,rfl,rfl,rfl⟩:=h1
  obtain⟨h4,h5⟩:=Au hop h3
  exact⟨none,h4,by simp,fun T _ _=>by rw[h2,h5 T ay]; rfl⟩
 cases op
 case alloc e =>
  simp only[aF] at h
  split at h
  ·rename_i hS
   have hlt:=fF hS
   simp only[af] at h
   split at h
   ·rename_i hk
    cases h
    cases hF
    refine⟨some (ay,_),ny hlt _,fun i b hw=>by cases hw; exact⟨by simp,rfl,hlt⟩,fun T hT hx => ?_⟩
    have:=hx ay (by simp)
    have hl:=hT (by simp)
    simp only[aF,this,hS,af,hk,Option.map_some]
    rw[ny (by omega)]
    rfl
   ·cases h
  ·cases h
 case box e a =>
  simp only[aF] at h
  split at h
  ·rename_i hS
   have hlt:=fF hS
   simp only[af] at h
   split at h
   ·rename_i hk
    cases h
    cases hF
    refine⟨some (ay,_),ny hlt _,fun i b hw=>by cases hw; exact⟨by simp,rfl,hlt⟩,fun T hT hx => ?_⟩
    have:=hx ay (by simp)
    have hl:=hT (by simp)
    simp only[aF,this,hS,af,hk,Option.map_some]
    rw[ny (by omega)]
    rfl
   ·cases h
  ·cases h
 case makeMap t r =>
  cases r with
  | some a =>
   simp only[aF] at h
   split at h
   ·simp[af] at h
   ·cases h
  | none =>
   simp only[aF] at h
   split at h
   ·rename_i hS
    have hlt:=fF hS
    simp only[af] at h
    cases h
    cases hF
    refine⟨some (ay,_),ny hlt _,fun i b hw=>by cases hw; exact⟨by simp,rfl,hlt⟩,fun T hT hx => ?_⟩
    have:=hx ay (by simp)
    have hl:=hT (by simp)
    simp only[aF,this,hS,af,Option.map_some]
    rw[ny (by omega)]
    rfl
   ·cases h
 case store t a b =>
  simp only[aF] at h
  split at h
  ·rename_i id off ha
   simp only[af,ha] at h
   split at h
   ·rename_i a' v' h1 h2
    cases h1
    unfold mQ at h
    split at h
    ·rename_i td gR sL hk V8
     cases V8
     split at h
     ·rename_i l hl
      split at h
      ·rename_i hc
       simp only[Option.map_map,ah,Function.comp_apply,av] at h
       obtain⟨l',h3,rfl,rfl,rfl⟩:=h
       cases hF
       refine⟨some (id,.cells l'),rfl,fun i b hw=>by cases hw; exact⟨by simp,rfl,fF hl⟩,fun T hT hx => ?_⟩
       have:=hx id (by simp)
       simp only[aF,ha,af,h2,mQ,hk,this,hl,hc,if_true,h3,Option.map_some]
       rfl
      ·cases h
     ·cases h
    ·rename_i V8; cases V8
    ·cases h
   ·cases h
  ·rename_i id n off ha
   simp only[af,ha] at h
   split at h
   ·rename_i a' v' h1 h2
    cases h1
    unfold mQ at h
    split at h
    ·rename_i V8; cases V8
    ·rename_i td gR n' sL hk V8
     cases V8
     split at h
     ·rename_i e s l hop
      have hl:=(jU hop).1
      split at h
      ·rename_i hc
       simp only[Option.map_map,ah,Function.comp_apply,av] at h
       obtain⟨l',h3,rfl,rfl,rfl⟩:=h
       cases hF
       refine⟨some (id,.op e s l' false),rfl,fun i b hw=>by cases hw; exact⟨by simp,rfl,fF hl⟩,fun T hT hx => ?_⟩
       have:=hx id (by simp)
       simp only[aF,ha,af,h2,mQ,hk,DF this,hop,hc,if_true,h3,Option.map_some]
       rfl
      ·cases h
     ·cases h
    ·cases h
   ·cases h
  ·cases h
 case makeSlice t a b=>simp only[aF] at h; cases h
 case buildSlice t n ps =>
  simp only[aF] at h
  split at h
  ·cases h
  ·rename_i hh
   simp only[ah,av] at h
   obtain⟨⟨d,S1⟩,h3,rfl,rfl,rfl⟩:=h
   cases hF
   obtain⟨h4,h5⟩:=C9 rfl hh h3
   refine⟨none,h4,by simp,fun T hT hx => ?_⟩
   simp only[aF,h5 T ay,Option.map_some]
   rfl
 case fieldAddr t a f' =>
  simp only[aF] at h
  split at h
  ·rename_i id n off ha
   simp only[ah,av] at h
   obtain⟨⟨d,S1⟩,h3,rfl,rfl,rfl⟩:=h
   cases hF
   refine⟨none,(oL (T:=S) (fun _ _ _ _=>rfl) h3).1,by simp,fun T hT hx => ?_⟩
   have h5:=(oL (T:=T) (fun gR n' sL he=>by rw[ha] at he; cases he; exact hx id (by simp)) h3).2 ay
   simp only[aF,ha,h5,Option.map_some]
   rfl
  ·rename_i hno
   simp only[ah,av] at h
   obtain⟨⟨d,S1⟩,h3,rfl,rfl,rfl⟩:=h
   cases hF
   refine⟨none,(oL (T:=S) (fun _ _ _ _=>rfl) h3).1,by simp,fun T hT hx => ?_⟩
   have h5:=(oL (T:=T) (fun gR n' sL he=>absurd he (hno _ _ _)) h3).2 ay
   simp only[aF,h5,Option.map_some]
   rfl
 case indexAddr t a i =>
  simp only[aF] at h
  split at h
  ·rename_i id n ag ha
   simp only[ah,av] at h
   obtain⟨⟨d,S1⟩,h3,rfl,rfl,rfl⟩:=h
   cases hF
   refine⟨none,(oJ (T:=S) (fun _ _ _ _=>rfl) h3).1,by simp,fun T hT hx => ?_⟩
   have h5:=(oJ (T:=T) (fun gR n' sL he=>by rw[ha] at he; cases he; exact hx id (by simp)) h3).2 ay
   simp only[aF,ha,h5,Option.map_some]
   rfl
  ·rename_i hno
   simp only[ah,av] at h
   obtain⟨⟨d,S1⟩,h3,rfl,rfl,rfl⟩:=h
   cases hF
   refine⟨none,(oJ (T:=S) (fun _ _ _ _=>rfl) h3).1,by simp,fun T hT hx => ?_⟩
   have h5:=(oJ (T:=T) (fun gR n' sL he=>absurd he (hno _ _ _)) h3).2 ay
   simp only[aF,h5,Option.map_some]
   rfl
 case load t a =>
  simp only[aF] at h
  split at h
  ·rename_i id off ha
   simp only[af,ha] at h
   simp only[Option.map_map,ah,Function.comp_apply,av] at h
   obtain⟨d,h3,rfl,rfl,rfl⟩:=h
   cases hF
   refine⟨none,rfl,by simp,fun T hT hx => ?_⟩
   have:=hx id (by simp)
   simp only[aF,ha,af,Mq this,h3,Option.map_some]
   rfl
  ·rename_i id n off ha
   simp only[af,ha] at h
   simp only[Option.map_map,ah,Function.comp_apply,av] at h
   obtain⟨d,h3,rfl,rfl,rfl⟩:=h
   cases hF
   refine⟨none,rfl,by simp,fun T hT hx => ?_⟩
   have:=hx id (by simp)
   simp only[aF,ha,af,IM this,h3,Option.map_some]
   rfl
  ·rename_i hno aap
   simp only[af] at h
   split at h
   ·rename_i a' ha
    simp only[Option.map_map,ah,Function.comp_apply,av] at h
    obtain⟨d,h3,rfl,rfl,rfl⟩:=h
    cases hF
    refine⟨none,rfl,by simp,fun T hT hx => ?_⟩
    have hld:jr ty T t a'=some d:=by
     cases a' with
     | ptr id off=>exact absurd ha (hno id off)
     | eT id n off=>exact absurd ha (aap id n off)
     | ey rows i off=>rw[← h3]; exact IP
     | _=>unfold jr at h3; split at h3<;>simp_all
    cases a' with
    | ptr id off=>exact absurd ha (hno id off)
    | eT id n off=>exact absurd ha (aap id n off)
    | _=>simp only[aF,ha,af,hld,Option.map_some]; rfl
   ·cases h
 case lookup t m k ok =>
  simp only[aF] at h
  split at h
  ·rename_i id ha
   simp only[af,ha] at h
   split at h
   ·rename_i kv hm hk
    cases hm
    split at h
    ·rename_i es hS
     simp only[Option.map_map,ah,Function.comp_apply,av] at h
     obtain⟨d,h3,rfl,rfl,rfl⟩:=h
     cases hF
     refine⟨none,rfl,by simp,fun T hT hx => ?_⟩
     have:=hx id (by simp)
     simp only[aF,ha,af,hk,this,hS,h3,Option.map_some]
     rfl
    ·cases h
   ·cases h
  ·cases h
 case mapUpdate t m k a =>
  simp only[aF] at h
  split at h
  ·rename_i id ha
   simp only[af,ha] at h
   split at h
   ·rename_i gR kv vv hm hk hv
    cases hm
    split at h
    ·rename_i es hS
     split at h
     ·rename_i r hr
      simp only[Option.map_map,ah,Function.comp_apply,av] at h
      obtain⟨es',h3,rfl,rfl,rfl⟩:=h
      cases hF
      refine⟨some (id,.map es'),rfl,fun i b hw=>by cases hw; exact⟨by simp,rfl,fF hS⟩,fun T hT hx => ?_⟩
      have:=hx id (by simp)
      simp only[aF,ha,af,hk,hv,this,hS,hr,h3,Option.map_some]
      rfl
     ·cases h
    ·cases h
   ·cases h
  ·cases h
 case call c =>
  obtain⟨callee,args,ats⟩:=c
  cases callee with
  | invoke r m=>simp[aF,af] at h
  | value g =>
   simp only[aF] at h
   split at h
   ·rename_i g' fs cs xs hf MN
    split at h
    ·rename_i hh
     simp only[ah,av] at h
     obtain⟨⟨d,S1⟩,h3,rfl,rfl,rfl⟩:=h
     cases hF
     obtain⟨b,hn,hS,hT⟩:=Mc h3
     exact⟨some (ay,b),hS,fun _ _ hw=>by cases hw; exact⟨by simp,rfl,fF hn⟩,fun T _ hx=>by simp only[aF,hf,MN,if_pos hh,hT T ((hx ay (by simp)).trans hn),Option.map_some]; rfl⟩
    rename_i hh
    split at h
    ·rename_i hp
     simp only[ah,av] at h
     obtain⟨d,h3,rfl,rfl,rfl⟩:=h
     cases hF
     exact⟨none,rfl,by simp,fun T hT hx=>by simp only[aF,hf,MN,if_neg hh,hp,if_true,h3,Option.map_some]; rfl⟩
    ·rename_i hp
     split at h
     ·rename_i i v1 l1 ho
      cases h
      cases hF
      obtain⟨hi,hT⟩:=Mg ho
      exact⟨some (i,.cells l1),rfl,fun _ _ hw=>by cases hw; exact⟨by simp,rfl,hi⟩,fun T _ hx=>by simp only[aF,hf,MN,if_neg hh,if_neg hp,hT T (hx i (by simp))]; rfl⟩
     ·simp only[ah,av] at h
      obtain⟨r,h3,rfl,rfl,rfl⟩:=h
      cases hF
   ·simp only[ah,av] at h
    obtain⟨r,h3,rfl,rfl,rfl⟩:=h
    cases hF
   ·cases h
  | builtin b =>
   by_cases hb:b = .append
   ·subst hb
    simp only[aF] at h
    split at h
    ·cases h
    rename_i hh
    split at h
    ·cases h
    rename_i hsl
    have aam:∀ a da,args.toList[0]? = some a→ρ a=some da→zK (some da)=false:=fun a da h0 h1=>by
     have:args[0]? = some a:=by rw[← gy]; exact h0
     rw[this] at hsl
     rw[← h1]
     simpa using hsl
    have hstep:∀ T:ak,af P ty aI call yf ρ ⟨dst,.call ⟨.builtin .append,args,ats⟩,type,pos,after,guard⟩ T ay=match args.toList,ats.toList with
      | [x,y],[t,u]=>if t=u then match ρ x,ρ y with
        | some a,some b=>iE ty T ay t a b
        | _,_=>none
       else none
      | _,_=>none:=fun T=>by
     simp only[af]
     generalize args.toList=l at aam
     generalize ats.toList=m
     match l,m with
     | [x,y],[t,u] =>
      dsimp only
      cases hx:ρ x with
      | none=>rfl
      | some a =>
       cases ρ y with
       | none=>rfl
       | some b =>
        have h0:=aam x a rfl hx
        cases a<;>first | (simp[zK] at h0; done) | rfl | (dsimp only; split<;>first | exact absurd ‹_› hh | rfl)
     | [],_=>rfl
     | [_],_=>rfl
     | _::_::_::_,_=>rfl
     | [_,_],[]=>rfl
     | [_,_],[_]=>rfl
     | [_,_],_::_::_::_=>rfl
    have main:∀ (r:DV×ak) (F:List Nat),af P ty aI call yf ρ ⟨dst,.call ⟨.builtin .append,args,ats⟩,type,pos,after,guard⟩ S ay=some r→S[ay]? = some .none→ay∈F→(∀ rw tk fl,(args[0]?).bind ρ=some (.sl rw (some tk) fl)→tk∈F)→(∀ T:ak,T[ay]? = some .none→aF P ty aI call yf ρ ⟨dst,.call ⟨.builtin .append,args,ats⟩,type,pos,after,guard⟩ T ay=(af P ty aI call yf ρ ⟨dst,.call ⟨.builtin .append,args,ats⟩,type,pos,after,guard⟩ T ay).map (fun r=>(r.1,r.2,(⟨some F,true⟩:cT)))) →
      ∃ w,Eff P ty aI call yf ρ ⟨dst,.call ⟨.builtin .append,args,ats⟩,type,pos,after,guard⟩ S ay r.1 r.2 ⟨some F,true⟩ F w:=by
     intro r F hr hS hnF htk Dh
     rw[hstep] at hr
     split at hr
     ·rename_i a b t u lI NP
      split at hr
      ·rename_i Ng
       split at hr
       ·rename_i da db ha mo
        obtain⟨w,w1,w2,w3⟩:=G8 (v:=r.1) (S':=r.2) hr (fF hS)
        have BC:(args[0]?).bind ρ=some da:=by
         have:args[0]? = some a:=by rw[← gy,lI]; rfl
         rw[this]; exact ha
        refine⟨w,w1,fun i c hw => ?_,fun T hT hx => ?_⟩
        ·obtain⟨h1,h2⟩:=w2 i c hw
         rcases h1 with rfl | ⟨Zl,tk,fl,rfl,rfl⟩
         ·exact⟨hnF,rfl,h2⟩
         ·exact⟨htk _ _ _ BC,rfl,h2⟩
        ·have hl:=hT (List.ne_nil_of_mem hnF)
         have ZR:=(hx ay hnF).trans hS
         have:=w3 T hl fun Zl tk fl sH=>hx tk (htk Zl tk fl (by rw[BC,sH]))
         rw[Dh T ZR,hstep,lI,NP]
         simp only[if_pos Ng,ha,mo,this,Option.map_some]
       ·cases hr
      ·cases hr
     ·cases hr
    split at h
    ·rename_i Zl tk fl hS mo
     simp only[ah,av] at h
     obtain⟨r,h3,rfl,rfl,rfl⟩:=h
     cases hF
     exact main r [tk,ay] h3 hS (by simp) (fun _ _ _ he=>by rw[mo] at he; cases he; simp) fun T hT=>by simp only[aF,if_neg hh,hT,mo,zK,aD,if_false]
    ·rename_i hS hno
     simp only[ah,av] at h
     obtain⟨r,h3,rfl,rfl,rfl⟩:=h
     cases hF
     refine main r [ay] h3 hS (by simp) (fun Zl tk fl he=>absurd he (hno Zl tk fl)) fun T hT => ?_
     simp only[aF,if_neg hh,if_neg hsl,hT]
    ·cases h
   ·have hop:rV (.call ⟨.builtin b,args,ats⟩):=by cases b<;>first | trivial | exact absurd rfl hb
    have Dh:∀ T,aF P ty aI call yf ρ ⟨dst,.call ⟨.builtin b,args,ats⟩,type,pos,after,guard⟩ T ay=(af P ty aI call yf ρ ⟨dst,.call ⟨.builtin b,args,ats⟩,type,pos,after,guard⟩ T ay).map (fun r=>(r.1,r.2,(⟨some [],false⟩:cT))):=fun T=>by
     cases b<;>first | rfl | exact absurd rfl hb
    rw[Dh] at h
    exact plain hop h Dh
 all_goals exact plain trivial h fun T=>rfl
end Go.Di
end
