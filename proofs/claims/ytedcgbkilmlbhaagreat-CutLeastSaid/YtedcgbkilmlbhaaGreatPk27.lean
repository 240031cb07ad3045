import Derived.Test.YtedcgbkilmlbhaaGreatPk26
import Derived.Orders
section
namespace Go.Di
open Go Go.Conc Go.Co
open Go.ConcN (sumTo sumTo_upd sumTo_congr le_sumTo upd upd_same upd_ne)
variable {P:Program} {aa:Machine→Trace→Prop} {ty:gF} {x:Cx} {aI:bP} {call:bM} {yf:eW}
def Closed (ops:Array Oper) (L:Nat→Bool):Prop:=∀ j o,ops[j]? = some o→L j=true→∀ e∈o.after,Region.binds .any e=true→L e.on=true
theorem tD {ops:Array Oper} (oN:∀ i o,ops[i]? = some o→∀ e∈o.after,Region.binds .any e=true→e.on<i) {σ:Type} (T:List Nat→σ→Prop) (J:(Nat→Bool)→σ→Prop)
  (hop:∀ L s i o,J L s→Closed ops L→ops[i]? = some o→L i=false→(∀ e∈o.after,Region.binds .any e=true→L e.on=true)→∀ rest,(∀ s',J (upd L i true) s'→T rest s')→T (i::rest) s)
  (qK:∀ L s,J L s→(∀ i,i<ops.size→L i=true)→T [] s) (t:Nat) (s:σ) (h0:J (fun _=>false) s):T (Region.linearise .any ops t) s:=by
 have key:∀ (fuel t:Nat) (listed:Array Bool) (s:σ),listed.size=ops.size→sumTo ops.size (fun j=>if listed.getD j true then 0 else 1)=fuel→J (fun j=>listed.getD j false) s→Closed ops (fun j=>listed.getD j false)→T (Region.linearise.go .any ops fuel t listed []) s:=by
  intro fuel
  induction fuel with
  | zero =>
   intro t listed s hsz HS hJ _
   refine qK _ s hJ fun i hi => ?_
   have h1:=le_sumTo (f:=fun j=>if listed.getD j true then 0 else 1) hi
   rw[HS] at h1
   have h2:listed.getD i true=true:=by
    cases h:listed.getD i true with
    | true=>rfl
    | false=>simp[h] at h1
   simpa [bQ (show i<listed.size by omega)] using h2
  | succ fuel ih =>
   intro t listed s hsz HS hJ sQ
   simp only[Region.linearise.go]
   change T (match (Region.ready .any ops listed)[t % (Region.ready .any ops listed).length]? with
    | some i=>Region.linearise.go .any ops fuel (t / (Region.ready .any ops listed).length) (listed.setIfInBounds i true) [i]
    | none=>[].reverse) s
   cases hi:(Region.ready .any ops listed)[t % (Region.ready .any ops listed).length]? with
   | none =>
    have HT:Region.ready .any ops listed=[]:=by
     cases hr:Region.ready .any ops listed with
     | nil=>rfl
     | cons x xs =>
      rw[hr] at hi
      have hlt:t % (x::xs).length<(x::xs).length:=Nat.mod_lt _ (by simp)
      simp at hi
      simp at hlt
      omega
    refine qK _ s hJ fun i hi => ?_
    induction i using Nat.strongRecOn with
    | ind i ihi =>
     have ET:i<listed.size:=by omega
     cases hb:listed.getD i false with
     | true=>rfl
     | false =>
      have qB:i∈Region.ready .any ops listed:=by
       refine mem_ready.2 ⟨by simpa [bQ ET] using hb,ops[i],bQ hi,fun e he ZL => ?_⟩
       have hlt:=oN i _ (bQ hi) e he ZL
       exact ihi e.on hlt (by omega)
      rw[HT] at qB
      cases qB
   | some i =>
    simp only[]
    rw[linearise_go_acc,List.reverse_singleton,List.singleton_append]
    have qB:=dL hi
    obtain⟨hun,o,ho,eL⟩:=mem_ready.1 qB
    have ZG:i<ops.size:=(aN.1 ho).1
    have ET:i<listed.size:=by omega
    have h2:(fun j=>(listed.setIfInBounds i true).getD j false)=upd (fun j=>listed.getD j false) i true:=by
     funext j
     by_cases gb:j=i
     ·subst gb
      rw[upd_same]
      simp[jE ET]
     ·rw[upd_ne _ _ gb,getD_set_ne false (Ne.symm gb)]
    refine hop _ s i o hJ sQ ho (by simpa [bQ ET] using hun) (fun e he hb=>eL e he hb) _ fun s' hJ'=>ih _ _ s' (by simpa using hsz) ?_ (by rw[h2]; exact hJ') ?_
    ·have h1:=sumTo_upd (fun j=>listed.getD j true) true (fun b=>if b then 0 else 1) ZG
     rw[hun] at h1
     simp only[if_true,aD,if_false] at h1
     have h2:sumTo ops.size (fun j=>if (listed.setIfInBounds i true).getD j true then 0 else 1)=sumTo ops.size fun j=>if upd (fun j=>listed.getD j true) i true j then 0 else 1:=by
      refine sumTo_congr fun j _ => ?_
      by_cases gb:j=i
      ·subst gb
       rw[upd_same]
       simp[jE ET]
      ·rw[upd_ne _ _ gb,getD_set_ne true (Ne.symm gb)]
     rw[h2]
     omega
    ·rw[h2]
     intro j o' kI hj e he hb
     by_cases gb:j=i
     ·subst gb
      rw[ho] at kI
      cases kI
      by_cases Jy:e.on=j
      ·rw[Jy,upd_same]
      ·rw[upd_ne _ _ Jy]; exact eL e he hb
     ·rw[upd_ne _ _ gb] at hj
      by_cases Jy:e.on=i
      ·rw[Jy,upd_same]
      ·rw[upd_ne _ _ Jy]; exact sQ j o' kI hj e he hb
 refine key ops.size t (Array.replicate ops.size false) s (by simp) ?_ ?_ ?_
 ·have:∀ n,n≤ops.size→sumTo n (fun j=>if (Array.replicate ops.size false).getD j true then 0 else 1)=n:=by
   intro n
   induction n with
   | zero=>intro _; rfl
   | succ n ih =>
    intro hn
    simp only[sumTo]
    rw[ih (by omega)]
    simp[show n<ops.size by omega]
  exact this _ (ai _)
 ·have:(fun j=>(Array.replicate ops.size false).getD j false)=fun _=>false:=by
   funext j
   simp[aV,Array.getElem?_replicate]
   split<;>rfl
  rw[this]
  exact h0
 ·intro j o _ hj
  exfalso
  revert hj
  simp[aV,Array.getElem?_replicate]
  split<;>simp
theorem rO (ops:Array Oper) {L:Nat→Bool} (hL:Closed ops L):∀ j i,((Region.before ops).getD j 0).testBit i=true→L j=true→L i=true:=by
 have key:∀ (l pre:List Oper) (acc:Array Nat),ops.toList=pre++l→acc.size=pre.length→(∀ j i,(acc.getD j 0).testBit i=true→L j=true→L i=true) →
   ∀ j i,((l.foldl (fun acc (o:Oper)=>acc.push (o.after.foldl (fun s e=>if Region.binds .any e then s ||| 2 ^ e.on ||| acc.getD e.on 0 else s) 0)) acc).getD j 0).testBit i=true→L j=true→L i=true:=by
  intro l
  induction l with
  | nil=>intro pre acc _ _ h; exact h
  | cons o l ih =>
   intro pre acc Dy hsz h
   simp only[List.foldl_cons]
   refine ih (pre++[o]) _ (by rw[Dy]; simp) (by simp[hsz]) fun j i ht hj => ?_
   have ho:ops[pre.length]? = some o:=by rw[← gN,Dy]; simp
   by_cases hjs:j<acc.size
   ·refine h j i ?_ hj
    rw[aV,Array.getElem?_push_lt hjs] at ht
    rw[aV,bQ hjs]
    exact ht
   ·by_cases hje:j=acc.size
    ·subst hje
     rw[aV,Array.getElem?_push_size,Option.getD_some] at ht
     rw[hsz] at hj
     have eL:=hL _ _ ho hj
     have fold:∀ (es:List Edge) (s:Nat),(∀ e∈es,e∈o.after)→(s.testBit i=true→L i=true)→(es.foldl (fun s e=>if Region.binds .any e then s ||| 2 ^ e.on ||| acc.getD e.on 0 else s) s).testBit i=true→L i=true:=by
      intro es
      induction es with
      | nil=>intro s _ hs ht; exact hs ht
      | cons e es ihe =>
       intro s he hs ht
       simp only[List.foldl_cons] at ht
       refine ihe _ (fun e' h'=>he e' (by simp[h'])) (fun hb => ?_) ht
       split at hb
       ·rename_i ZL
        simp only[Nat.testBit_or,iq,Nat.testBit_two_pow,bI] at hb
        rcases hb with (hb | hb) | hb
        ·exact hs hb
        ·rw[← hb]; exact eL e (he e (by simp)) ZL
        ·exact h _ _ hb (eL e (he e (by simp)) ZL)
       ·exact hs hb
     rw[← Array.foldl_toList] at ht
     exact fold o.after.toList 0 (by simp) (by simp) ht
    ·rw[aV,ki (by simp; omega)] at ht
     simp at ht
 intro j i
 unfold Region.before
 rw[← Array.foldl_toList]
 exact key ops.toList [] #[] rfl rfl (by simp) j i
theorem kR {ρ ρ':Operand→Option DV}:∀ {l:List Operand},(∀ a∈l,ρ a=ρ' a)→evs ρ l=evs ρ' l
 | [],_=>rfl
 | a::l,h=>by
  unfold evs
  rw[h a (by simp),kR fun b hb=>h b (by simp[hb])]
theorem rI {ρ ρ':Operand→Option DV}:∀ {l:List (Nat×Operand)},(∀ a∈l.map (·.2),ρ a=ρ' a)→jq ρ l=jq ρ' l
 | [],_=>rfl
 | (i,a)::l,h=>by
  unfold jq
  rw[h a (by simp),rI fun b hb=>h b (by simp at hb ⊢; exact .inr hb)]
theorem rN {ρ ρ':Operand→Option DV} {a:Option Operand} {d m:Nat} (h:∀ b∈a.toArray,ρ b=ρ' b):gz ρ a d m=gz ρ' a d m:=by
 cases a with
 | none=>rfl
 | some b=>simp only[gz,intOf,h b (by simp)]
theorem vT {ρ ρ':Operand→Option DV} {o:Oper} {S:av} {aB:Nat} (h:∀ a∈o.op.operands,ρ a=ρ' a):af P ty aI call yf ρ o S aB=af P ty aI call yf ρ' o S aB:=by
 obtain⟨dst,op,type,pos,after,guard⟩:=o
 cases op<;>simp only[Op.operands,Call.operands] at h<;>try rfl
 case move a=>simp only[af,h a (by simp)]
 case assign a=>simp only[af,h a (by simp)]
 case pick a b c=>simp only[af,h a (by simp),h b (by simp),h c (by simp)]
 case box t a=>simp only[af,h a (by simp)]
 case build t ps =>
  have:=rI (ρ:=ρ) (ρ':=ρ') (l:=ps.toList) fun a ha=>h a (by simpa using ha)
  simp only[af,this]
 case buildSlice t n ps =>
  have:=rI (ρ:=ρ) (ρ':=ρ') (l:=ps.toList) fun a ha=>h a (by simpa using ha)
  simp only[af,this]
 case makeSlice t a b=>simp only[af,intOf,h a (by simp),h b (by simp)]
 case load t a=>simp only[af,h a (by simp)]
 case store t a v=>simp only[af,h a (by simp),h v (by simp)]
 case nilCheck a=>simp only[af,h a (by simp)]
 case binOp op t a b u=>simp only[af,valOf,h a (by simp),h b (by simp)]
 case unOp op t a=>simp only[af,valOf,h a (by simp)]
 case convert s d a=>simp only[af,valOf,h a (by simp)]
 case makeFunc fn fs cs =>
  cases fn with
  | func f=>simp only[af,kR (ρ:=ρ) (ρ':=ρ') (l:=fs.toList) fun a ha=>h a (by simp at ha ⊢; exact .inl ha),kR (ρ:=ρ) (ρ':=ρ') (l:=cs.toList) fun a ha=>h a (by simp at ha ⊢; exact .inr ha)]
  | _=>rfl
 case makeMap t r=>cases r<;>rfl
 case slice t a lo hi mx =>
  have h1:ρ a=ρ' a:=h a (by simp)
  have h2:=fun d m=>rN (ρ:=ρ) (ρ':=ρ') (a:=lo) (d:=d) (m:=m) fun b hb=>h b (by simp at hb ⊢; simp[hb])
  have h3:=fun d m=>rN (ρ:=ρ) (ρ':=ρ') (a:=hi) (d:=d) (m:=m) fun b hb=>h b (by simp at hb ⊢; simp[hb])
  have h4:=fun d m=>rN (ρ:=ρ) (ρ':=ρ') (a:=mx) (d:=d) (m:=m) fun b hb=>h b (by simp at hb ⊢; simp[hb])
  simp only[af,h1,h2,h3,h4]
 case fieldAddr t a f=>simp only[af,h a (by simp)]
 case field t a f=>simp only[af,h a (by simp)]
 case indexAddr t a i=>simp only[af,intOf,h a (by simp),h i (by simp)]
 case index t a i=>simp only[af,intOf,h a (by simp),h i (by simp)]
 case lookup t a i ok=>simp only[af,valOf,h a (by simp),h i (by simp)]
 case mapUpdate t m k v=>simp only[af,valOf,h m (by simp),h k (by simp),h v (by simp)]
 case extract a i=>simp only[af,h a (by simp)]
 case call c =>
  obtain⟨callee,args,ats⟩:=c
  cases callee with
  | builtin b =>
   simp only[Array.empty_append] at h
   have h1:∀ a∈args.toList,ρ a=ρ' a:=fun a ha=>h a (by simpa using ha)
   have h2:=kR h1
   simp only[af]
   generalize args.toList=l at h1 h2
   generalize ats.toList=m
   cases b<;>try rfl
   ·match l,m with
    | [a,c],[t,u]=>simp only[h1 a (by simp),h1 c (by simp)]
    | [],_=>rfl
    | [_],_=>rfl
    | _::_::_::_,_=>rfl
    | [_,_],[]=>rfl
    | [_,_],[_]=>rfl
    | [_,_],_::_::_::_=>rfl
   ·match l,m with
    | [a],[t]=>simp only[h1 a (by simp)]
    | [],_=>rfl
    | _::_::_,_=>rfl
    | [_],[]=>rfl
    | [_],_::_::_=>rfl
   ·simp only[h2]
   ·simp only[h2]
  | value f =>
   have h1:ρ f=ρ' f:=h f (by simp)
   have h2:=kR (ρ:=ρ) (ρ':=ρ') (l:=args.toList) fun a ha=>h a (by simp at ha ⊢; exact .inr ha)
   simp only[af,h1,h2]
  | invoke r m=>rfl
end Go.Di
end
section
namespace Go.Di
open Go Go.Conc Go.Co
open Go.ConcN (sumTo sumTo_upd sumTo_congr le_sumTo upd upd_same upd_ne)
variable {P:Program} {aa:Machine→Trace→Prop} {ty:gF} {x:Cx} {aI:bP} {call:bM} {yf:eW}
def FK (ops:Array Oper):Prop:=∀ i o,ops[i]? = some o→∀ e∈o.after,Region.binds .any e=true→e.on<i
theorem Dc {ops:Array Oper} (oN:FK ops) {i j:Nat} (hne:i≠j) (h:((Region.before ops).getD j 0).testBit i=true):i<j:=by
  have sQ:Closed ops fun k=>decide (k≤j):=by
    intro k o ho hk e he hb
    have:=oN k o ho e he hb
    simp only[bI] at hk ⊢
    omega
  have:=rO ops sQ j i h (by simp)
  simp only[bI] at this
  omega
theorem Kt {ops:Array Oper} (oN:FK ops) {L:Nat→Bool} (hL:Closed ops L) {i j:Nat} {o:Oper} (ho:ops[i]? = some o) (hi:L i=false) (uP:∀ e∈o.after,Region.binds .any e=true→L e.on=true) (hne:i≠j)
    (h:((Region.before ops).getD j 0).testBit i=true∨((Region.before ops).getD i 0).testBit j=true):L j=true↔j<i:=by
  rcases h with h | h
  · have h1:=Dc oN hne h
    refine⟨fun hj => ?_,fun hj=>by omega⟩
    have:=rO ops hL j i h hj
    rw[hi] at this
    cases this
  · have h1:=Dc oN (Ne.symm hne) h
    refine⟨fun _=>h1,fun _ => ?_⟩
    have sQ:Closed ops (upd L i true):=by
      intro k o' kI hk e he hb
      by_cases Ng:k=i
      · subst Ng
        rw[ho] at kI
        cases kI
        by_cases Jy:e.on=k
        · rw[Jy,upd_same]
        · rw[upd_ne _ _ Jy]; exact uP e he hb
      · rw[upd_ne _ _ Ng] at hk
        by_cases Jy:e.on=i
        · rw[Jy,upd_same]
        · rw[upd_ne _ _ Jy]; exact hL k o' kI hk e he hb
    have:=rO ops sQ i j h (upd_same _ _ _)
    rwa [upd_ne _ _ (Ne.symm hne)] at this
def nU (ops:Array Oper) (j:Nat) (t:Tmp):Bool:=match ops[j]? with
  | some o=>o.dst==some t
  | none=>false
def lF (ops:Array Oper) (V:Nat→DV) (L:Nat→Bool) (t:Tmp):Nat→Option DV
  | 0=>none
  | n+1=>if L n&&nU ops n t then some (V n) else lF ops V L t n
theorem jX {ops:Array Oper} {V:Nat→DV} {L:Nat→Bool} {t:Tmp} {i:Nat}:∀ {n:Nat},i≤n→(∀ j,j<n→nU ops j t=true→(L j=true↔j<i))→lF ops V L t n=lF ops V (fun _=>true) t i
  | 0,h,_=>by
    have:i=0:=by omega
    subst this; rfl
  | n+1,h,hj=>by
    by_cases nR:i=n+1
    · subst nR
      unfold lF
      by_cases hd:nU ops n t=true
      · have:=(hj n (by omega) hd).2 (by omega)
        simp only[this,hd,gm,if_true]
      · simp only[aG,hd,and_false,if_false,aD]
        exact jX (ai _) fun j h1 h2=>⟨fun _=>h1,fun _=>(hj j (oe h1) h2).2 (oe h1)⟩
    · have hle:i≤n:=by omega
      rw[← jX hle fun j h1 h2=>hj j (by omega) h2]
      conv=>lhs; unfold lF
      by_cases hd:nU ops n t=true
      · have:L n=false:=by
          cases hLn:L n with
          | false=>rfl
          | true=>have:=(hj n (by omega) hd).1 hLn; omega
        rw[this]
        simp
      · simp[hd]
theorem yl {ops:Array Oper} {V:Nat→DV} {L:Nat→Bool} {t:Tmp} {i:Nat} (hd:nU ops i t=false):∀ n,lF ops V (upd L i true) t n=lF ops V L t n
  | 0=>rfl
  | n+1=>by
    unfold lF
    rw[yl hd n]
    by_cases h:n=i
    · subst h; simp[hd]
    · rw[upd_ne _ _ h]
def Ct (ops:Array Oper) (V:Nat→DV) (L:Nat→Bool) (n:Nat) (adw env:List DV):Prop:=∀ t,env[t]? = (adw[t]?).map fun d=>(lF ops V L t n).getD d
theorem F7 (env:List DV) (dst:Option Tmp) (v:DV) (t:Tmp):(jj env dst v)[t]? = if dst=some t then (env[t]?).map fun _=>v else env[t]? := by
  cases dst with
  | none=>simp[jj]
  | some d =>
    simp only[jj,aP,az]
    by_cases h:d=t
    · subst h
      by_cases hl:d<env.length
      · simp[hl]
      · simp[hl]
    · simp[h]
def JY (ops:Array Oper) (V:Nat→DV) (E:Nat→List DV):Prop:=∀ j o,ops[j]? = some o→E (j+1)=jj (E j) o.dst (V j)
theorem yX {ops:Array Oper} {V:Nat→DV} {E:Nat→List DV} (h:JY ops V E):∀ i,i≤ops.size→Ct ops V (fun _=>true) i (E 0) (E i)
  | 0,_=>fun t=>by simp[lF]
  | i+1,hi=>fun t=>by
    have ho:ops[i]? = some ops[i]:=bQ (by omega)
    have ih:=yX h i (by omega) t
    rw[h i _ ho,F7]
    unfold lF
    have hd:nU ops i t=(ops[i].dst==some t):=by unfold nU; rw[ho]
    by_cases Sk:ops[i].dst=some t
    · simp only[Sk,if_true,hd,beq_self_eq_true,gm,Option.getD_some,ih,Option.map_map]
      rfl
    · have:(ops[i].dst==some t)=false:=by simpa using Sk
      simp only[Sk,if_false,hd,this,mI,aD]
      exact ih
theorem C5 {ops:Array Oper} {V:Nat→DV} {E:Nat→List DV} {L:Nat→Bool} {env:List DV} {i:Nat} {o:Oper} (ho:ops[i]? = some o) (hE:Ct ops V L ops.size (E 0) env)
    (abw:∀ t,o.dst=some t→∀ j,j<ops.size→nU ops j t=true→(upd L i true j=true↔j<i+1)):Ct ops V (upd L i true) ops.size (E 0) (jj env o.dst (V i)):=by
  intro t
  have hi:i<ops.size:=(aN.1 ho).1
  rw[F7]
  have hd:nU ops i t=(o.dst==some t):=by unfold nU; rw[ho]
  by_cases Sk:o.dst=some t
  · have e:lF ops V (fun _=>true) t (i+1)=some (V i):=by unfold lF; simp[hd,Sk]
    rw[if_pos Sk,jX (i:=i+1) (by omega) (abw t Sk),hE t,e]
    simp[Function.comp_def]
  · have h2:nU ops i t=false:=by rw[hd]; simpa using Sk
    rw[if_neg Sk,yl h2]
    exact hE t
theorem yg {ops:Array Oper} (oN:FK ops) (Dl:j8 ops (Region.before ops)=true) {V:Nat→DV} {E:Nat→List DV} (hS:JY ops V E) {L:Nat→Bool} (hL:Closed ops L) {env:List DV} (hE:Ct ops V L ops.size (E 0) env) {i:Nat} {o:Oper} (ho:ops[i]? = some o) (hi:L i=false)
    (uP:∀ e∈o.after,Region.binds .any e=true→L e.on=true):(∀ t∈j9 ops o,env[t]? = (E i)[t]?)∧∀ t,o.dst=some t→∀ j,j<ops.size→nU ops j t=true→(upd L i true j=true↔j<i+1):=by
  have ZG:i<ops.size:=(aN.1 ho).1
  have hx:∀ t∈j9 ops o,∀ j,j<ops.size→j≠i→nU ops j t=true→(L j=true↔j<i):=by
    intro t ht j hj hne hd
    have hoj:ops[j]? = some ops[j]:=bQ hj
    have Nh:ops[j].dst=some t:=by unfold nU at hd; rw[hoj] at hd; simpa using hd
    refine Kt oN hL ho hi uP (Ne.symm hne) ?_
    unfold j8 at Dl
    simp only[aG,bh] at Dl
    have h1:=Dl.2 (o,i) (by rw[sj]; simpa using ho) (ops[j],j) (by rw[sj]; simp)
    simp only[Nh] at h1
    have hc:(j9 ops o).contains t=true:=by simpa using ht
    simp only[hc,fD,Bool.or_false,iq,dX] at h1
    rcases h1 with (h1 | h1) | h1
    · exact absurd h1.symm hne
    · exact .inl h1
    · exact .inr h1
  constructor
  · intro t ht
    rw[hE t,yX hS i (by omega) t]
    congr 1
    funext d
    rw[jX (i:=i) (by omega) fun j hj hd => ?_]
    by_cases gb:j=i
    · subst gb; simp[hi]
    · exact hx t ht j hj gb hd
  · intro t ht j hj hd
    by_cases gb:j=i
    · subst gb; simp[upd_same]
    · rw[upd_ne _ _ gb,hx t (by simp[j9,ht]) j hj gb hd]
      omega
theorem C3 {ops:Array Oper} {o:Oper} {env aC:List DV} (h:∀ t∈j9 ops o,env[t]? = aC[t]?):∀ a∈o.op.operands,iB env a=iB aC a:=by
  intro a ha
  cases a with
  | tmp t =>
    have:t∈j9 ops o:=by
      unfold j9
      simp only[gn]
      left; right
      rw[List.mem_filterMap]
      exact⟨.tmp t,by simpa using ha,rfl⟩
    simp only[iB,aL,h t this]
  | _=>rfl
theorem vO {ops:Array Oper} {o:Oper} {env aC:List DV} (h:∀ t∈j9 ops o,env[t]? = aC[t]?):bY ops env o=bY ops aC o:=by
  unfold bY
  cases hg:o.guard with
  | none=>rfl
  | some g =>
    obtain⟨j,want⟩:=g
    simp only
    cases hb:(ops[j]?).bind (·.dst) with
    | none=>rfl
    | some t =>
      have:t∈j9 ops o:=by
        unfold j9
        rw[hg]
        simp[hb]
      simp only[h t this]
theorem Ga {ops:Array Oper} (h:j8 ops (Region.before ops)=true):FK ops:=by
  intro i o ho e he hb
  unfold j8 at h
  simp only[aG,bh,Array.all_eq_true'] at h
  have h1:=h.1 (o,i) (by rw[sj]; simpa using ho) e he
  simpa [hb] using h1
theorem F3 {ops:Array Oper} {S:av}:∀ {r:List Oper} {env aC:List DV},oy P ty aI call yf ops S r env=some aC→∃ (E:Nat→List DV) (V:Nat→DV),E 0=env∧E r.length=aC ∧
    ∀ j o,r[j]? = some o→E (j+1)=jj (E j) o.dst (V j)∧(bY ops (E j) o=true→cS P ty aI call yf (iB (E j)) o S=some (V j))∧(bY ops (E j) o=false→V j=bz)
  | [],env,aC,h=>by
    simp only[oy,az] at h
    exact⟨fun _=>env,fun _=>bz,rfl,h,by simp⟩
  | o::r,env,aC,h=>by
    unfold oy at h
    have key:∀ v,oy P ty aI call yf ops S r (jj env o.dst v)=some aC→(bY ops env o=true→cS P ty aI call yf (iB env) o S=some v)→(bY ops env o=false→v=bz)→∃ (E:Nat→List DV) (V:Nat→DV),E 0=env∧E (o::r).length=aC ∧
        ∀ j o',(o::r)[j]? = some o'→E (j+1)=jj (E j) o'.dst (V j)∧(bY ops (E j) o'=true→cS P ty aI call yf (iB (E j)) o' S=some (V j))∧(bY ops (E j) o'=false→V j=bz):=fun v h1 h2 h3=>by
      obtain⟨E,V,e1,e2,e3⟩:=F3 h1
      refine⟨fun n=>match n with | 0=>env | n+1=>E n,fun n=>match n with | 0=>v | n+1=>V n,rfl,by simpa using e2,fun j o' kI => ?_⟩
      cases j with
      | zero =>
        simp only[List.getElem?_cons_zero,az] at kI
        subst kI
        exact⟨e1,h2,h3⟩
      | succ j=>exact e3 j o' (by simpa using kI)
    split at h
    · rename_i hw
      split at h
      · rename_i v h1
        exact key v h (fun _=>h1) fun hf=>by rw[hw] at hf; cases hf
      · cases h
    · rename_i hw
      exact key bz h (fun ht=>absurd ht hw) fun _=>rfl
theorem quiet_step {ρ:Operand→Option DV} {o:Oper} {S:av} {v:DV} (h:cS P ty aI call yf ρ o S=some v):af P ty aI call yf ρ o S S.length=some (v,S):=by
  obtain⟨dst,op,type,pos,after,guard⟩:=o
  have gen:∀ {q:Option (DV×av)},q.map (·.1)=some v→(∀ d S',q=some (d,S')→S'=S)→q=some (v,S):=by
    intro q hq hs
    simp only[ah] at hq
    obtain⟨⟨d,S'⟩,h1,rfl⟩:=hq
    rw[h1,hs d S' h1]
  have mp:∀ {β:Type} {q:Option β} {f:β→DV} {d:DV} {S':av},q.map (fun c=>(f c,S))=some (d,S')→S'=S:=by
    intro β q f d S' hq
    simp only[ah,ax] at hq
    obtain⟨_,_,_,h⟩:=hq
    exact h.symm
  cases op<;>simp only[cS] at h
  case call c =>
    obtain⟨callee,args,ats⟩:=c
    cases callee with
    | builtin b =>
      cases b<;>simp only at h<;>first | cases h | skip
      all_goals
        refine gen h fun d S' hq => ?_
        simp only[af] at hq
        repeat' split at hq
        all_goals first | contradiction | exact mp (f:=id) hq | exact mp hq | (cases hq; rfl) | (cases hq; done) | skip
    | value f =>
      simp only at h
      split at h
      · rename_i g fs cs xs hf Nw
        split at h
        · cases h
        rename_i hh
        split at h
        · rename_i hp
          simp only[af,hf,Nw,u6,hp,if_true,h]
        · cases h
      · cases h
    | invoke r m=>simp[af] at h
  case buildSlice t n ps =>
    split at h
    · cases h
    · rename_i hh
      refine gen h fun d S' hq => ?_
      simp only[af] at hq
      repeat' split at hq
      all_goals first | contradiction | (cases hq; first | rfl | contradiction)
  all_goals first
    | cases h
    | (refine gen h fun d S' hq => ?_
       simp only[af] at hq
       repeat' split at hq
       all_goals first | contradiction | exact mp (f:=id) hq | exact mp hq | (cases hq; rfl) | (cases hq; done) | skip)
theorem GY {ρ ρ':Operand→Option DV} {o:Oper} {S:av} (h:∀ a∈o.op.operands,ρ a=ρ' a):cS P ty aI call yf ρ o S=cS P ty aI call yf ρ' o S:=by
  have hs:=vT (P:=P) (ty:=ty) (aI:=aI) (call:=call) (yf:=yf) (S:=S) (aB:=S.length) h
  unfold cS
  split<;>try rfl
  · rw[hs]
  · rename_i f args ats hop
    rw[hop] at h
    have h1:ρ f=ρ' f:=h f (by simp[Op.operands,Call.operands])
    have h2:=kR (ρ:=ρ) (ρ':=ρ') (l:=args.toList) fun a ha=>h a (by simp[Op.operands,Call.operands] at ha ⊢; exact .inr ha)
    rw[h1,h2]
  · rw[hs]
theorem IQ (hP:Plain P) (eC:jl P ty) (hc:jL P aa call) (hi:xZ P aa aI) (HD:xY P aa yf) {ops:Array Oper} {b:Frame} {k:List Item} {cs:List Frame} (hk:b.kind ≠ .early) (Dl:j8 ops (Region.before ops)=true)
    {env aC:List DV} {a:Act} (h:oy P ty aI call yf ops x.S ops.toList env=some aC) (hR:Rel x) (he:gD x env a.tmps)
    (hn:∀ y a',y.S=x.S→Rel y→cr x y→gD y aC a'.tmps→a'.defers=a.defers→ia P aa () (G (b.atR a' k) cs) y.w) (t:Nat):ia P aa () (G (b.atR a (.inRegion ops (Region.linearise .any ops t)::k)) cs) x.w:=by
  have oN:=Ga Dl
  obtain⟨E,V,e1,e2,e3⟩:=F3 h
  have Dy:∀ (j:Nat) (o:Oper),ops[j]? = some o→ops.toList[j]? = some o:=fun j o ho=>by simpa using ho
  have hS:JY ops V E:=fun j o ho=>(e3 j o (Dy j o ho)).1
  refine tD oN (σ:=Act×Cx) (fun todo s=>s.2.S=x.S→Rel s.2→cr x s.2→s.1.defers=a.defers→ia P aa () (G (b.atR s.1 (.inRegion ops todo::k)) cs) s.2.w)
    (fun L s=>∃ oA,gD s.2 oA s.1.tmps∧Ct ops V L ops.size (E 0) oA) ?_ ?_ t (a,x) ⟨env,he,fun t => ?_⟩ rfl hR (cr.refl x) rfl
  · rintro L ⟨a1,y⟩ i o ⟨oA,wq,Su⟩ sQ ho hLi uP rest zU ZN HK NK HI
    simp only at wq ZN HK NK HI ⊢
    obtain⟨q1,q2⟩:=yg oN Dl hS sQ Su ho hLi uP
    have hw:=vO q1
    have RI:=wV wq ops o
    have hE2:=C5 (V:=V) ho Su q2
    by_cases Wu:bY ops (E i) o=true
    · have hq:=(e3 i o (Dy i o ho)).2.1 Wu
      rw[← GY (C3 q1),← ZN] at hq
      refine Ot hP eC hc hi HD hk ho (by rw[RI,hw]; exact Wu) HK (.inl rfl) wq (quiet_step hq) fun z u zS zR zM zV => ?_
      have ni:=wK (wq.mono zM) (dst:=o.dst) zV
      exact zU (a1.put o.dst u,z) ⟨_,ni.1,hE2⟩ (zS.trans ZN) zR (NK.trans zM) (ni.2.trans HI)
    · have Wv:bY ops (E i) o=false:=by simpa using Wu
      have hv:=(e3 i o (Dy i o ho)).2.2 Wv
      have ni:=wK wq (dst:=o.dst) (d:=V i) (v:=undef) (by rw[hv]; exact .val rfl)
      exact fe hP (fun w=>⟨_,rH ho (by rw[RI,hw]; exact Wv)⟩) (zU (a1.put o.dst undef,y) ⟨_,ni.1,hE2⟩ ZN HK NK (ni.2.trans HI))
  · rintro L ⟨a1,y⟩ ⟨oA,wq,Su⟩ eL ZN HK NK HI
    have:oA=aC:=by
      refine mK fun t => ?_
      have hlen:E ops.size=aC:=by simpa using e2
      rw[Su t,← hlen,yX hS ops.size (ai _) t]
      congr 1
      funext d
      rw[jX (i:=ops.size) (ai _) fun j hj _=>by simp[eL j hj,hj]]
    subst this
    exact fe hP (fun w=>⟨_,oG⟩) (hn y a1 ZN HK NK wq HI)
  · rw[e1]
    have:∀ n,lF ops V (fun _=>false) t n=none:=by
      intro n
      induction n with
      | zero=>rfl
      | succ n ih=>unfold lF; simp[ih]
    rw[this]
    simp
end Go.Di
end
section
namespace Go.Di
open Go Go.Conc Go.Co
open Go.ConcN (upd upd_same upd_ne)
variable {P:Program} {aa:Machine→Trace→Prop} {ty:gF} {x:Cx} {aI:bP} {call:bM} {yf:eW}
def appW (w:Option (Nat×DB)) (S:av):av:=match w with
 | none=>S
 | some (i,b)=>S.set i b
theorem nV {S:av} {i:Nat} (h:i<S.length) (b:DB):ez S i b=S.set i b:=by unfold ez; rw[if_pos h]
theorem gQ {S:av} {i:Nat} {b:DB} (h:S[i]? = some b):i<S.length:=(aJ.1 h).1
def sk:Op→Prop
 | .alloc _ | .box .. | .makeMap .. | .load .. | .store .. | .lookup .. | .mapUpdate .. | .makeSlice .. | .buildSlice .. | .fieldAddr .. | .indexAddr .. => False
 | .call { callee := .builtin .append,.. }=>False
 | .call { callee := .builtin _,.. }=>True
 | .call _=>False
 | _=>True
theorem map_fst {β:Type} (q:Option β) (f:β→DV) (S T:av):q.map (fun c=>(f c,S))=((q.map (fun c=>(f c,T))).map (·.1)).map (·,S):=by cases q<;>rfl
theorem A9 {ρ:Operand→Option DV} {o:Oper} (hop:sk o.op) (S:av) (aB:Nat):af P ty aI call yf ρ o S aB=((af P ty aI call yf ρ o [] 0).map (·.1)).map (·,S):=by
 obtain⟨dst,op,type,pos,after,guard⟩:=o
 cases op<;>simp only[sk] at hop
 case call c =>
  obtain⟨callee,args,ats⟩:=c
  cases callee with
  | builtin b =>
   simp only[af]
   generalize args.toList=l
   generalize ats.toList=m
   split
   ·split<;>first | rfl | exact map_fst (f:=id) _ S []
   ·exact hop.elim
   ·split<;>first | rfl | exact map_fst (f:=id) _ S []
   ·split<;>first | rfl | exact map_fst (f:=id) _ S []
   ·rfl
  | value f=>exact hop.elim
  | invoke r m=>exact hop.elim
 case makeFunc fn fs cs=>cases fn<;>simp only[af]<;>(repeat' split)<;>rfl
 all_goals simp only[af]
 all_goals (repeat' split)
 all_goals first
  | rfl
  | exact map_fst (f:=id) _ S []
  | exact map_fst _ _ S []
theorem Ay {ρ:Operand→Option DV} {o:Oper} (hop:sk o.op) {S S':av} {aB:Nat} {v:DV} (h:af P ty aI call yf ρ o S aB=some (v,S')):S'=S∧∀ T sU,af P ty aI call yf ρ o T sU=some (v,T):=by
 rw[A9 hop] at h
 simp only[ah,ax] at h
 obtain⟨d,h1,h2,h3⟩:=h
 refine⟨h3.symm,fun T sU => ?_⟩
 rw[A9 hop]
 simp only[ah,ax]
 exact⟨d,h1,h2,trivial⟩
structure Eff (P:Program) (ty:gF) (aI:bP) (call:bM) (yf:eW) (ρ:Operand→Option DV) (o:Oper) (S:av) (aB:Nat) (v:DV) (S':av) (f:dh) (F:List Nat) (w:Option (Nat×DB)):Prop where
 res:S'=appW w S
 DC:∀ i b,w=some (i,b)→i∈F∧f.wr=true∧i<S.length
 loc:∀ T,(F≠[]→T.length=S.length)→(∀ x∈F,T[x]? = S[x]?)→aH P ty aI call yf ρ o T aB=some (v,appW w T,f)
theorem MH {S T:av} {t:TypeId} {id off:Nat} (h:T[id]? = S[id]?):jN ty T t (.ptr id off)=jN ty S t (.ptr id off):=by
 unfold jN
 cases ty t with
 | none=>rfl
 | some d=>simp only[h]
theorem I4 {S T:av} {t:TypeId} {rows:List DV} {i off:Nat}:jN ty T t (.eS rows i off)=jN ty S t (.eS rows i off):=by unfold jN; cases ty t<;>rfl
theorem DL {S T:av} {id n:Nat} (h:T[id]? = S[id]?):BC T id n=BC S id n:=by unfold BC; rw[h]
theorem I3 {S T:av} {t:TypeId} {id n off:Nat} (h:T[id]? = S[id]?):jN ty T t (.fW id n off)=jN ty S t (.fW id n off):=by
 unfold jN
 cases ty t with
 | none=>rfl
 | some d=>simp only[DL h]
theorem pE {ρ:Operand→Option DV} {dst:Option Tmp} {t type:TypeId} {a:Operand} {f:Nat} {pos:String} {after:Array Edge} {guard:Option (Nat×Bool)} {S S' T:av} {aB:Nat} {v:DV} (hT:∀ id n off,ρ a=some (.fW id n off)→T[id]? = S[id]?)
  (h:af P ty aI call yf ρ ⟨dst,.fieldAddr t a f,type,pos,after,guard⟩ S aB=some (v,S')):S'=S∧∀ sU,af P ty aI call yf ρ ⟨dst,.fieldAddr t a f,type,pos,after,guard⟩ T sU=some (v,T):=by
 simp only[af] at h ⊢
 split at h
 ·rename_i hk ha
  split at h
  ·rename_i hf
   split at h
   ·rename_i hs
    cases h
    exact⟨rfl,fun _=>by simp only[hk,ha,hf,if_pos hs]⟩
   ·cases h
  ·cases h
 ·rename_i hk ha
  split at h
  ·rename_i hf
   split at h
   ·rename_i hs
    cases h
    exact⟨rfl,fun _=>by simp only[hk,ha,hf,if_pos hs]⟩
   ·cases h
  ·cases h
 ·rename_i hk ha
  split at h
  ·rename_i hf hop
   split at h
   ·rename_i hs
    cases h
    exact⟨rfl,fun _=>by simp only[hk,ha,hf,DL (hT _ _ _ ha),hop,if_pos hs]⟩
   ·cases h
  ·cases h
 ·cases h
theorem pq {ρ:Operand→Option DV} {dst:Option Tmp} {t type:TypeId} {a i:Operand} {pos:String} {after:Array Edge} {guard:Option (Nat×Bool)} {S S' T:av} {aB:Nat} {v:DV} (hT:∀ id n ag,ρ a=some (.jG id n ag)→T[id]? = S[id]?)
  (h:af P ty aI call yf ρ ⟨dst,.indexAddr t a i,type,pos,after,guard⟩ S aB=some (v,S')):S'=S∧∀ sU,af P ty aI call yf ρ ⟨dst,.indexAddr t a i,type,pos,after,guard⟩ T sU=some (v,T):=by
 simp only[af] at h ⊢
 split at h
 ·rename_i hk ha hi
  split at h
  ·rename_i h0
   split at h
   ·rename_i r hr
    split at h
    ·rename_i hs
     cases h
     exact⟨rfl,fun _=>by simp only[hk,ha,hi,if_pos h0,hr,if_pos hs]⟩
    ·cases h
   ·cases h
  ·cases h
 ·rename_i hk ha hi
  split at h
  ·rename_i h0
   cases h
   exact⟨rfl,fun _=>by simp only[hk,ha,hi,if_pos h0]⟩
  ·cases h
 ·rename_i hk ha hi
  split at h
  ·rename_i h0
   cases h
   exact⟨rfl,fun _=>by simp only[hk,ha,hi,if_pos h0]⟩
  ·cases h
 ·rename_i hk ha hi
  split at h
  ·rename_i hop
   split at h
   ·rename_i h0
    cases h
    exact⟨rfl,fun _=>by simp only[hk,ha,hi,DL (hT _ _ _ ha),hop,if_pos h0]⟩
   ·cases h
  ·cases h
 ·cases h
theorem Db {ρ:Operand→Option DV} {o:Oper} {t:TypeId} {n:Nat} {ps:Array (Nat×Operand)} {S S':av} {aB:Nat} {v:DV} (ho:o.op = .buildSlice t n ps) (hh:ty.h o≠1)
  (h:af P ty aI call yf ρ o S aB=some (v,S')):S'=S∧∀ (T:av) (sU:Nat),af P ty aI call yf ρ o T sU=some (v,T):=by
 simp only[af,ho] at h ⊢
 split at h
 ·rename_i hk hl
  split at h
  ·rename_i he
   split at h
   ·rename_i hc
    split at h
    ·rename_i hf
     split at h
     ·rename_i hp
      cases h
      exact⟨rfl,fun T sU=>by simp only[if_pos hc,if_pos hp]⟩
     ·cases h
    ·cases h
   ·cases h
  ·cases h
 ·cases h
theorem Ho {S S':av} {aB:Nat} {t:TypeId} {a b v:DV} (h:iY ty S aB t a b=some (v,S')) (hn:aB<S.length):∃ w,S'=appW w S∧(∀ i c,w=some (i,c)→(i=aB∨∃ r tk f,a = .sl r (some tk) f∧i=tk)∧i<S.length) ∧
  ∀ T:av,T.length=S.length→(∀ r tk f,a = .sl r (some tk) f→T[tk]? = S[tk]?)→iY ty T aB t a b=some (v,appW w T):=by
 unfold iY at h ⊢
 split at h
 ·rename_i e s kF agg sz z rows tok full news Ds Wc Vc
  split at h
  ·rename_i sV
   cases h
   exact⟨none,rfl,by simp,fun T _ _=>by simp only[sV,if_true]; rfl⟩
  ·rename_i sV
   split at h
   ·rename_i hte
    split at h
    ·rename_i hc
     cases tok with
     | none =>
      simp only at h
      split at h
      ·rename_i hf
       cases h
       refine⟨some (aB,.tail e s ((rows.length+news.length)*s)),nV hn _,fun i c hw => ?_,fun T hT _ => ?_⟩
       ·cases hw; exact⟨.inl rfl,hn⟩
       ·simp only[sV,hc,hf,if_true,aD,if_false]
        rw[nV (by omega)]
        rfl
      ·cases h
     | some tk =>
      simp only at h
      split at h
      ·rename_i e' s' n' hS
       split at h
       ·rename_i wA
        cases h
        refine⟨some (tk,.tail e s ((rows.length+news.length)*s)),rfl,fun i c hw => ?_,fun T hT hl => ?_⟩
        ·cases hw; exact⟨.inr ⟨rows,tk,full,rfl,rfl⟩,gQ hS⟩
        ·have hT2:T[tk]? = some (.tail e' s' n'):=(hl rows tk full rfl).trans hS
         simp only[sV,hc,hT2,wA,if_true,aD,if_false]
         rfl
       ·cases h
      ·cases h
    ·cases h
   ·cases h
 ·cases h
theorem Mx {g:FuncId} {args:List DV} {S:av} {i:Nat} {v:DV} {l:List DV} (h:xO call g args S=some (i,v,l)):i<S.length∧∀ T:av,T[i]? = S[i]? → xO call g args T=some (i,v,l):=by
 unfold xO at h ⊢
 split at h
 ·rename_i j off rest
  split at h
  ·rename_i l0 hj
   split at h
   ·rename_i hc
    split at h
    ·rename_i v2 l' T2 nB
     split at h
     ·rename_i hq
      cases h
      refine⟨gQ hj,fun T hT => ?_⟩
      rw[hj] at hT
      simp only[hT,if_pos hc,nB,if_pos hq]
     ·cases h
    ·cases h
   ·cases h
  ·cases h
 ·cases h
theorem PC {ρ:Operand→Option DV} {o:Oper} {S S':av} {aB:Nat} {v:DV} {f:dh} (h:aH P ty aI call yf ρ o S aB=some (v,S',f)) {F:List Nat} (hF:f.ids=some F):∃ w,Eff P ty aI call yf ρ o S aB v S' f F w:=by
 obtain⟨dst,op,type,pos,after,guard⟩:=o
 have plain:∀ (hop:sk op),(af P ty aI call yf ρ ⟨dst,op,type,pos,after,guard⟩ S aB).map (fun r=>(r.1,r.2,(⟨some [],false⟩:dh)))=some (v,S',f)→(∀ T,aH P ty aI call yf ρ ⟨dst,op,type,pos,after,guard⟩ T aB=(af P ty aI call yf ρ ⟨dst,op,type,pos,after,guard⟩ T aB).map (fun r=>(r.1,r.2,(⟨some [],false⟩:dh))))→∃ w,Eff P ty aI call yf ρ ⟨dst,op,type,pos,after,guard⟩ S aB v S' f F w:=by
  intro hop h1 h2
  simp only[ah,ax] at h1
  obtain⟨⟨d,S1⟩,h3,rfl,rfl,rfl⟩:=h1
  obtain⟨h4,h5⟩:=Ay hop h3
  exact⟨none,h4,by simp,fun T _ _=>by rw[h2,h5 T aB]; rfl⟩
 cases op
 case alloc e =>
  simp only[aH] at h
  split at h
  ·rename_i hS
   have hlt:=gQ hS
   simp only[af] at h
   split at h
   ·rename_i hk
    cases h
    cases hF
    refine⟨some (aB,_),nV hlt _,fun i b hw=>by cases hw; exact⟨by simp,rfl,hlt⟩,fun T hT hx => ?_⟩
    have:=hx aB (by simp)
    have hl:=hT (by simp)
    simp only[aH,this,hS,af,hk,Option.map_some]
    rw[nV (by omega)]
    rfl
   ·cases h
  ·cases h
 case box e a =>
  simp only[aH] at h
  split at h
  ·rename_i hS
   have hlt:=gQ hS
   simp only[af] at h
   split at h
   ·rename_i hk
    cases h
    cases hF
    refine⟨some (aB,_),nV hlt _,fun i b hw=>by cases hw; exact⟨by simp,rfl,hlt⟩,fun T hT hx => ?_⟩
    have:=hx aB (by simp)
    have hl:=hT (by simp)
    simp only[aH,this,hS,af,hk,Option.map_some]
    rw[nV (by omega)]
    rfl
   ·cases h
  ·cases h
 case makeMap t r =>
  cases r with
  | some a =>
   simp only[aH] at h
   split at h
   ·simp[af] at h
   ·cases h
  | none =>
   simp only[aH] at h
   split at h
   ·rename_i hS
    have hlt:=gQ hS
    simp only[af] at h
    cases h
    cases hF
    refine⟨some (aB,_),nV hlt _,fun i b hw=>by cases hw; exact⟨by simp,rfl,hlt⟩,fun T hT hx => ?_⟩
    have:=hx aB (by simp)
    have hl:=hT (by simp)
    simp only[aH,this,hS,af,Option.map_some]
    rw[nV (by omega)]
    rfl
   ·cases h
 case store t a b =>
  simp only[aH] at h
  split at h
  ·rename_i id off ha
   simp only[af,ha] at h
   split at h
   ·rename_i a' v' h1 h2
    cases h1
    unfold nG at h
    split at h
    ·rename_i td iT sS hk WB
     cases WB
     split at h
     ·rename_i l hl
      split at h
      ·rename_i hc
       simp only[Option.map_map,ah,Function.comp_apply,ax] at h
       obtain⟨l',h3,rfl,rfl,rfl⟩:=h
       cases hF
       refine⟨some (id,.cells l'),rfl,fun i b hw=>by cases hw; exact⟨by simp,rfl,gQ hl⟩,fun T hT hx => ?_⟩
       have:=hx id (by simp)
       simp only[aH,ha,af,h2,nG,hk,this,hl,hc,if_true,h3,Option.map_some]
       rfl
      ·cases h
     ·cases h
    ·rename_i WB; cases WB
    ·cases h
   ·cases h
  ·rename_i id n off ha
   simp only[af,ha] at h
   split at h
   ·rename_i a' v' h1 h2
    cases h1
    unfold nG at h
    split at h
    ·rename_i WB; cases WB
    ·rename_i td iT n' sS hk WB
     cases WB
     split at h
     ·rename_i e s l hop
      have hl:=(kA hop).1
      split at h
      ·rename_i hc
       simp only[Option.map_map,ah,Function.comp_apply,ax] at h
       obtain⟨l',h3,rfl,rfl,rfl⟩:=h
       cases hF
       refine⟨some (id,.op e s l' false),rfl,fun i b hw=>by cases hw; exact⟨by simp,rfl,gQ hl⟩,fun T hT hx => ?_⟩
       have:=hx id (by simp)
       simp only[aH,ha,af,h2,nG,hk,DL this,hop,hc,if_true,h3,Option.map_some]
       rfl
      ·cases h
     ·cases h
    ·cases h
   ·cases h
  ·cases h
 case makeSlice t a b=>simp only[aH] at h; cases h
 case buildSlice t n ps =>
  simp only[aH] at h
  split at h
  ·cases h
  ·rename_i hh
   simp only[ah,ax] at h
   obtain⟨⟨d,S1⟩,h3,rfl,rfl,rfl⟩:=h
   cases hF
   obtain⟨h4,h5⟩:=Db rfl hh h3
   refine⟨none,h4,by simp,fun T hT hx => ?_⟩
   simp only[aH,h5 T aB,Option.map_some]
   rfl
 case fieldAddr t a f' =>
  simp only[aH] at h
  split at h
  ·rename_i id n off ha
   simp only[ah,ax] at h
   obtain⟨⟨d,S1⟩,h3,rfl,rfl,rfl⟩:=h
   cases hF
   refine⟨none,(pE (T:=S) (fun _ _ _ _=>rfl) h3).1,by simp,fun T hT hx => ?_⟩
   have h5:=(pE (T:=T) (fun iT n' sS he=>by rw[ha] at he; cases he; exact hx id (by simp)) h3).2 aB
   simp only[aH,ha,h5,Option.map_some]
   rfl
  ·rename_i hno
   simp only[ah,ax] at h
   obtain⟨⟨d,S1⟩,h3,rfl,rfl,rfl⟩:=h
   cases hF
   refine⟨none,(pE (T:=S) (fun _ _ _ _=>rfl) h3).1,by simp,fun T hT hx => ?_⟩
   have h5:=(pE (T:=T) (fun iT n' sS he=>absurd he (hno _ _ _)) h3).2 aB
   simp only[aH,h5,Option.map_some]
   rfl
 case indexAddr t a i =>
  simp only[aH] at h
  split at h
  ·rename_i id n ag ha
   simp only[ah,ax] at h
   obtain⟨⟨d,S1⟩,h3,rfl,rfl,rfl⟩:=h
   cases hF
   refine⟨none,(pq (T:=S) (fun _ _ _ _=>rfl) h3).1,by simp,fun T hT hx => ?_⟩
   have h5:=(pq (T:=T) (fun iT n' sS he=>by rw[ha] at he; cases he; exact hx id (by simp)) h3).2 aB
   simp only[aH,ha,h5,Option.map_some]
   rfl
  ·rename_i hno
   simp only[ah,ax] at h
   obtain⟨⟨d,S1⟩,h3,rfl,rfl,rfl⟩:=h
   cases hF
   refine⟨none,(pq (T:=S) (fun _ _ _ _=>rfl) h3).1,by simp,fun T hT hx => ?_⟩
   have h5:=(pq (T:=T) (fun iT n' sS he=>absurd he (hno _ _ _)) h3).2 aB
   simp only[aH,h5,Option.map_some]
   rfl
 case load t a =>
  simp only[aH] at h
  split at h
  ·rename_i id off ha
   simp only[af,ha] at h
   simp only[Option.map_map,ah,Function.comp_apply,ax] at h
   obtain⟨d,h3,rfl,rfl,rfl⟩:=h
   cases hF
   refine⟨none,rfl,by simp,fun T hT hx => ?_⟩
   have:=hx id (by simp)
   simp only[aH,ha,af,MH this,h3,Option.map_some]
   rfl
  ·rename_i id n off ha
   simp only[af,ha] at h
   simp only[Option.map_map,ah,Function.comp_apply,ax] at h
   obtain⟨d,h3,rfl,rfl,rfl⟩:=h
   cases hF
   refine⟨none,rfl,by simp,fun T hT hx => ?_⟩
   have:=hx id (by simp)
   simp only[aH,ha,af,I3 this,h3,Option.map_some]
   rfl
  ·rename_i hno aar
   simp only[af] at h
   split at h
   ·rename_i a' ha
    simp only[Option.map_map,ah,Function.comp_apply,ax] at h
    obtain⟨d,h3,rfl,rfl,rfl⟩:=h
    cases hF
    refine⟨none,rfl,by simp,fun T hT hx => ?_⟩
    have hld:jN ty T t a'=some d:=by
     cases a' with
     | ptr id off=>exact absurd ha (hno id off)
     | fW id n off=>exact absurd ha (aar id n off)
     | eS rows i off=>rw[← h3]; exact I4
     | _=>unfold jN at h3; split at h3<;>simp_all
    cases a' with
    | ptr id off=>exact absurd ha (hno id off)
    | fW id n off=>exact absurd ha (aar id n off)
    | _=>simp only[aH,ha,af,hld,Option.map_some]; rfl
   ·cases h
 case lookup t m k ok =>
  simp only[aH] at h
  split at h
  ·rename_i id ha
   simp only[af,ha] at h
   split at h
   ·rename_i kv hm hk
    cases hm
    split at h
    ·rename_i es hS
     simp only[Option.map_map,ah,Function.comp_apply,ax] at h
     obtain⟨d,h3,rfl,rfl,rfl⟩:=h
     cases hF
     refine⟨none,rfl,by simp,fun T hT hx => ?_⟩
     have:=hx id (by simp)
     simp only[aH,ha,af,hk,this,hS,h3,Option.map_some]
     rfl
    ·cases h
   ·cases h
  ·cases h
 case mapUpdate t m k a =>
  simp only[aH] at h
  split at h
  ·rename_i id ha
   simp only[af,ha] at h
   split at h
   ·rename_i iT kv vv hm hk hv
    cases hm
    split at h
    ·rename_i es hS
     split at h
     ·rename_i r hr
      simp only[Option.map_map,ah,Function.comp_apply,ax] at h
      obtain⟨es',h3,rfl,rfl,rfl⟩:=h
      cases hF
      refine⟨some (id,.map es'),rfl,fun i b hw=>by cases hw; exact⟨by simp,rfl,gQ hS⟩,fun T hT hx => ?_⟩
      have:=hx id (by simp)
      simp only[aH,ha,af,hk,hv,this,hS,hr,h3,Option.map_some]
      rfl
     ·cases h
    ·cases h
   ·cases h
  ·cases h
 case call c =>
  obtain⟨callee,args,ats⟩:=c
  cases callee with
  | invoke r m=>simp[aH,af] at h
  | value g =>
   simp only[aH] at h
   split at h
   ·rename_i g' fs cs xs hf Nw
    split at h
    ·cases h
    rename_i hh
    split at h
    ·rename_i hp
     simp only[ah,ax] at h
     obtain⟨d,h3,rfl,rfl,rfl⟩:=h
     cases hF
     exact⟨none,rfl,by simp,fun T hT hx=>by simp only[aH,hf,Nw,if_neg hh,hp,if_true,h3,Option.map_some]; rfl⟩
    ·rename_i hp
     split at h
     ·rename_i i v1 l1 ho
      cases h
      cases hF
      obtain⟨hi,hT⟩:=Mx ho
      exact⟨some (i,.cells l1),rfl,fun _ _ hw=>by cases hw; exact⟨by simp,rfl,hi⟩,fun T _ hx=>by simp only[aH,hf,Nw,if_neg hh,if_neg hp,hT T (hx i (by simp))]; rfl⟩
     ·simp only[ah,ax] at h
      obtain⟨r,h3,rfl,rfl,rfl⟩:=h
      cases hF
   ·simp only[ah,ax] at h
    obtain⟨r,h3,rfl,rfl,rfl⟩:=h
    cases hF
   ·cases h
  | builtin b =>
   by_cases hb:b = .append
   ·subst hb
    simp only[aH] at h
    split at h
    ·cases h
    rename_i hh
    split at h
    ·cases h
    rename_i hsl
    have aap:∀ a da,args.toList[0]? = some a→ρ a=some da→zT (some da)=false:=fun a da h0 h1=>by
     have:args[0]? = some a:=by rw[← gN]; exact h0
     rw[this] at hsl
     rw[← h1]
     simpa using hsl
    have hstep:∀ T:av,af P ty aI call yf ρ ⟨dst,.call ⟨.builtin .append,args,ats⟩,type,pos,after,guard⟩ T aB=match args.toList,ats.toList with
      | [x,y],[t,u]=>if t=u then match ρ x,ρ y with
        | some a,some b=>iY ty T aB t a b
        | _,_=>none
       else none
      | _,_=>none:=fun T=>by
     simp only[af]
     generalize args.toList=l at aap
     generalize ats.toList=m
     match l,m with
     | [x,y],[t,u] =>
      dsimp only
      cases hx:ρ x with
      | none=>rfl
      | some a =>
       cases ρ y with
       | none=>rfl
       | some b =>
        have h0:=aap x a rfl hx
        cases a<;>first | (simp[zT] at h0; done) | rfl | (dsimp only; split<;>first | exact absurd ‹_› hh | rfl)
     | [],_=>rfl
     | [_],_=>rfl
     | _::_::_::_,_=>rfl
     | [_,_],[]=>rfl
     | [_,_],[_]=>rfl
     | [_,_],_::_::_::_=>rfl
    have main:∀ (r:DV×av) (F:List Nat),af P ty aI call yf ρ ⟨dst,.call ⟨.builtin .append,args,ats⟩,type,pos,after,guard⟩ S aB=some r→S[aB]? = some .none→aB∈F→(∀ rw tk fl,(args[0]?).bind ρ=some (.sl rw (some tk) fl)→tk∈F)→(∀ T:av,T[aB]? = some .none→aH P ty aI call yf ρ ⟨dst,.call ⟨.builtin .append,args,ats⟩,type,pos,after,guard⟩ T aB=(af P ty aI call yf ρ ⟨dst,.call ⟨.builtin .append,args,ats⟩,type,pos,after,guard⟩ T aB).map (fun r=>(r.1,r.2,(⟨some F,true⟩:dh)))) →
      ∃ w,Eff P ty aI call yf ρ ⟨dst,.call ⟨.builtin .append,args,ats⟩,type,pos,after,guard⟩ S aB r.1 r.2 ⟨some F,true⟩ F w:=by
     intro r F hr hS hnF htk Dl
     rw[hstep] at hr
     split at hr
     ·rename_i a b t u mc N4
      split at hr
      ·rename_i Ny
       split at hr
       ·rename_i da db ha mU
        obtain⟨w,w1,w2,w3⟩:=Ho (v:=r.1) (S':=r.2) hr (gQ hS)
        have BG:(args[0]?).bind ρ=some da:=by
         have:args[0]? = some a:=by rw[← gN,mc]; rfl
         rw[this]; exact ha
        refine⟨w,w1,fun i c hw => ?_,fun T hT hx => ?_⟩
        ·obtain⟨h1,h2⟩:=w2 i c hw
         rcases h1 with rfl | ⟨Z4,tk,fl,rfl,rfl⟩
         ·exact⟨hnF,rfl,h2⟩
         ·exact⟨htk _ _ _ BG,rfl,h2⟩
        ·have hl:=hT (List.ne_nil_of_mem hnF)
         have hT2:=(hx aB hnF).trans hS
         have:=w3 T hl fun Z4 tk fl sP=>hx tk (htk Z4 tk fl (by rw[BG,sP]))
         rw[Dl T hT2,hstep,mc,N4]
         simp only[if_pos Ny,ha,mU,this,Option.map_some]
       ·cases hr
      ·cases hr
     ·cases hr
    split at h
    ·rename_i Z4 tk fl hS mU
     simp only[ah,ax] at h
     obtain⟨r,h3,rfl,rfl,rfl⟩:=h
     cases hF
     exact main r [tk,aB] h3 hS (by simp) (fun _ _ _ he=>by rw[mU] at he; cases he; simp) fun T hT=>by simp only[aH,if_neg hh,hT,mU,zT,aD,if_false]
    ·rename_i hS hno
     simp only[ah,ax] at h
     obtain⟨r,h3,rfl,rfl,rfl⟩:=h
     cases hF
     refine main r [aB] h3 hS (by simp) (fun Z4 tk fl he=>absurd he (hno Z4 tk fl)) fun T hT => ?_
     simp only[aH,if_neg hh,if_neg hsl,hT]
    ·cases h
   ·have hop:sk (.call ⟨.builtin b,args,ats⟩):=by cases b<;>first | trivial | exact absurd rfl hb
    have Dl:∀ T,aH P ty aI call yf ρ ⟨dst,.call ⟨.builtin b,args,ats⟩,type,pos,after,guard⟩ T aB=(af P ty aI call yf ρ ⟨dst,.call ⟨.builtin b,args,ats⟩,type,pos,after,guard⟩ T aB).map (fun r=>(r.1,r.2,(⟨some [],false⟩:dh))):=fun T=>by
     cases b<;>first | rfl | exact absurd rfl hb
    rw[Dl] at h
    exact plain hop h Dl
 all_goals exact plain trivial h fun T=>rfl
end Go.Di
end
