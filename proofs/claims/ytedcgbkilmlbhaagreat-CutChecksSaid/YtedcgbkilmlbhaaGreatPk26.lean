import Derived.Test.YtedcgbkilmlbhaaGreatPk25
import Derived.Orders
section
namespace Go.Di
open Go Go.Conc Go.Co
open Go.ConcN (sumTo sumTo_upd sumTo_congr le_sumTo upd upd_same upd_ne)
variable {P:Program} {af:Machine→Trace→Prop} {ty:eY} {x:Cx} {aC:bk} {call:aW} {yf:dR}
def Closed (ops:Array Oper) (L:Nat→Bool):Prop:=∀ j o,ops[j]? = some o→L j=true→∀ e∈o.after,Region.binds .any e=true→L e.on=true
theorem rD {ops:Array Oper} (mI:∀ i o,ops[i]? = some o→∀ e∈o.after,Region.binds .any e=true→e.on<i) {σ:Type} (T:List Nat→σ→Prop) (J:(Nat→Bool)→σ→Prop)
  (hop:∀ L s i o,J L s→Closed ops L→ops[i]? = some o→L i=false→(∀ e∈o.after,Region.binds .any e=true→L e.on=true)→∀ rest,(∀ s',J (upd L i true) s'→T rest s')→T (i::rest) s)
  (oJ:∀ L s,J L s→(∀ i,i<ops.size→L i=true)→T [] s) (t:Nat) (s:σ) (h0:J (fun _=>false) s):T (Region.linearise .any ops t) s:=by
 have key:∀ (fuel t:Nat) (listed:Array Bool) (s:σ),listed.size=ops.size→sumTo ops.size (fun j=>if listed.getD j true then 0 else 1)=fuel→J (fun j=>listed.getD j false) s→Closed ops (fun j=>listed.getD j false)→T (Region.linearise.go .any ops fuel t listed []) s:=by
  intro fuel
  induction fuel with
  | zero =>
   intro t listed s hsz Gl hJ _
   refine oJ _ s hJ fun i hi => ?_
   have h1:=le_sumTo (f:=fun j=>if listed.getD j true then 0 else 1) hi
   rw[Gl] at h1
   have h2:listed.getD i true=true:=by
    cases h:listed.getD i true with
    | true=>rfl
    | false=>simp[h] at h1
   simpa [Array.getElem?_eq_getElem (show i<listed.size by omega)] using h2
  | succ fuel ih =>
   intro t listed s hsz Gl hJ qJ
   simp only[Region.linearise.go]
   change T (match (Region.ready .any ops listed)[t % (Region.ready .any ops listed).length]? with
    | some i=>Region.linearise.go .any ops fuel (t / (Region.ready .any ops listed).length) (listed.setIfInBounds i true) [i]
    | none=>[].reverse) s
   cases hi:(Region.ready .any ops listed)[t % (Region.ready .any ops listed).length]? with
   | none =>
    have Gn:Region.ready .any ops listed=[]:=by
     cases hr:Region.ready .any ops listed with
     | nil=>rfl
     | cons x xs =>
      rw[hr] at hi
      have hlt:t % (x::xs).length<(x::xs).length:=Nat.mod_lt _ (by simp)
      simp at hi
      simp at hlt
      omega
    refine oJ _ s hJ fun i hi => ?_
    induction i using Nat.strongRecOn with
    | ind i ihi =>
     have JQ:i<listed.size:=by omega
     cases hb:listed.getD i false with
     | true=>rfl
     | false =>
      have mw:i∈Region.ready .any ops listed:=by
       refine mem_ready.2 ⟨by simpa [Array.getElem?_eq_getElem JQ] using hb,ops[i],Array.getElem?_eq_getElem hi,fun e he Yo => ?_⟩
       have hlt:=mI i _ (Array.getElem?_eq_getElem hi) e he Yo
       exact ihi e.on hlt (by omega)
      rw[Gn] at mw
      cases mw
   | some i =>
    simp only[]
    rw[linearise_go_acc,List.reverse_singleton,List.singleton_append]
    have mw:=List.mem_of_getElem? hi
    obtain⟨YO,o,ho,dG⟩:=mem_ready.1 mw
    have Yi:i<ops.size:=(Array.getElem?_eq_some_iff.1 ho).1
    have JQ:i<listed.size:=by omega
    have h2:(fun j=>(listed.setIfInBounds i true).getD j false)=upd (fun j=>listed.getD j false) i true:=by
     funext j
     by_cases eH:j=i
     ·subst eH
      rw[upd_same]
      simp[Array.getElem?_setIfInBounds_self_of_lt JQ]
     ·rw[upd_ne _ _ eH,getD_set_ne false (Ne.symm eH)]
    refine hop _ s i o hJ qJ ho (by simpa [Array.getElem?_eq_getElem JQ] using YO) (fun e he hb=>dG e he hb) _ fun s' hJ'=>ih _ _ s' (by simpa using hsz) ?_ (by rw[h2]; exact hJ') ?_
    ·have h1:=sumTo_upd (fun j=>listed.getD j true) true (fun b=>if b then 0 else 1) Yi
     rw[YO] at h1
     simp only[if_true,Bool.false_eq_true,if_false] at h1
     have h2:sumTo ops.size (fun j=>if (listed.setIfInBounds i true).getD j true then 0 else 1)=sumTo ops.size fun j=>if upd (fun j=>listed.getD j true) i true j then 0 else 1:=by
      refine sumTo_congr fun j _ => ?_
      by_cases eH:j=i
      ·subst eH
       rw[upd_same]
       simp[Array.getElem?_setIfInBounds_self_of_lt JQ]
      ·rw[upd_ne _ _ eH,getD_set_ne true (Ne.symm eH)]
     rw[h2]
     omega
    ·rw[h2]
     intro j o' jj hj e he hb
     by_cases eH:j=i
     ·subst eH
      rw[ho] at jj
      cases jj
      by_cases Ic:e.on=j
      ·rw[Ic,upd_same]
      ·rw[upd_ne _ _ Ic]; exact dG e he hb
     ·rw[upd_ne _ _ eH] at hj
      by_cases Ic:e.on=i
      ·rw[Ic,upd_same]
      ·rw[upd_ne _ _ Ic]; exact qJ j o' jj hj e he hb
 refine key ops.size t (Array.replicate ops.size false) s (by simp) ?_ ?_ ?_
 ·have:∀ n,n≤ops.size→sumTo n (fun j=>if (Array.replicate ops.size false).getD j true then 0 else 1)=n:=by
   intro n
   induction n with
   | zero=>intro _; rfl
   | succ n ih =>
    intro hn
    simp only[sumTo]
    rw[ih (by omega)]
    simp[show n<ops.size by omega]
  exact this _ (Nat.le_refl _)
 ·have:(fun j=>(Array.replicate ops.size false).getD j false)=fun _=>false:=by
   funext j
   simp[Array.getD_eq_getD_getElem?,Array.getElem?_replicate]
   split<;>rfl
  rw[this]
  exact h0
 ·intro j o _ hj
  exfalso
  revert hj
  simp[Array.getD_eq_getD_getElem?,Array.getElem?_replicate]
  split<;>simp
theorem pU (ops:Array Oper) {L:Nat→Bool} (hL:Closed ops L):∀ j i,((Region.before ops).getD j 0).testBit i=true→L j=true→L i=true:=by
 have key:∀ (l pre:List Oper) (acc:Array Nat),ops.toList=pre++l→acc.size=pre.length→(∀ j i,(acc.getD j 0).testBit i=true→L j=true→L i=true) →
   ∀ j i,((l.foldl (fun acc (o:Oper)=>acc.push (o.after.foldl (fun s e=>if Region.binds .any e then s ||| 2 ^ e.on ||| acc.getD e.on 0 else s) 0)) acc).getD j 0).testBit i=true→L j=true→L i=true:=by
  intro l
  induction l with
  | nil=>intro pre acc _ _ h; exact h
  | cons o l ih =>
   intro pre acc Ci hsz h
   simp only[List.foldl_cons]
   refine ih (pre++[o]) _ (by rw[Ci]; simp) (by simp[hsz]) fun j i ht hj => ?_
   have ho:ops[pre.length]? = some o:=by rw[← Array.getElem?_toList,Ci]; simp
   by_cases hjs:j<acc.size
   ·refine h j i ?_ hj
    rw[Array.getD_eq_getD_getElem?,Array.getElem?_push_lt hjs] at ht
    rw[Array.getD_eq_getD_getElem?,Array.getElem?_eq_getElem hjs]
    exact ht
   ·by_cases YY:j=acc.size
    ·subst YY
     rw[Array.getD_eq_getD_getElem?,Array.getElem?_push_size,Option.getD_some] at ht
     rw[hsz] at hj
     have dG:=hL _ _ ho hj
     have fold:∀ (es:List Edge) (s:Nat),(∀ e∈es,e∈o.after)→(s.testBit i=true→L i=true)→(es.foldl (fun s e=>if Region.binds .any e then s ||| 2 ^ e.on ||| acc.getD e.on 0 else s) s).testBit i=true→L i=true:=by
      intro es
      induction es with
      | nil=>intro s _ hs ht; exact hs ht
      | cons e es ihe =>
       intro s he hs ht
       simp only[List.foldl_cons] at ht
       refine ihe _ (fun e' h'=>he e' (by simp[h'])) (fun hb => ?_) ht
       split at hb
       ·rename_i Yo
        simp only[Nat.testBit_or,Bool.or_eq_true,Nat.testBit_two_pow,decide_eq_true_eq] at hb
        rcases hb with (hb | hb) | hb
        ·exact hs hb
        ·rw[← hb]; exact dG e (he e (by simp)) Yo
        ·exact h _ _ hb (dG e (he e (by simp)) Yo)
       ·exact hs hb
     rw[← Array.foldl_toList] at ht
     exact fold o.after.toList 0 (by simp) (by simp) ht
    ·rw[Array.getD_eq_getD_getElem?,Array.getElem?_eq_none (by simp; omega)] at ht
     simp at ht
 intro j i
 unfold Region.before
 rw[← Array.foldl_toList]
 exact key ops.toList [] #[] rfl rfl (by simp) j i
theorem jx {ρ ρ':Operand→Option DV}:∀ {l:List Operand},(∀ a∈l,ρ a=ρ' a)→evs ρ l=evs ρ' l
 | [],_=>rfl
 | a::l,h=>by
  unfold evs
  rw[h a (by simp),jx fun b hb=>h b (by simp[hb])]
theorem pL {ρ ρ':Operand→Option DV}:∀ {l:List (Nat×Operand)},(∀ a∈l.map (·.2),ρ a=ρ' a)→ic ρ l=ic ρ' l
 | [],_=>rfl
 | (i,a)::l,h=>by
  unfold ic
  rw[h a (by simp),pL fun b hb=>h b (by simp at hb ⊢; exact .inr hb)]
theorem pS {ρ ρ':Operand→Option DV} {a:Option Operand} {d m:Nat} (h:∀ b∈a.toArray,ρ b=ρ' b):eU ρ a d m=eU ρ' a d m:=by
 cases a with
 | none=>rfl
 | some b=>simp only[eU,intOf,h b (by simp)]
theorem uD {ρ ρ':Operand→Option DV} {o:Oper} {S:ak} {ay:Nat} (h:∀ a∈o.op.operands,ρ a=ρ' a):ah P ty aC call yf ρ o S ay=ah P ty aC call yf ρ' o S ay:=by
 obtain⟨dst,op,type,pos,after,guard⟩:=o
 cases op<;>simp only[Op.operands,Call.operands] at h<;>try rfl
 case move a=>simp only[ah,h a (by simp)]
 case assign a=>simp only[ah,h a (by simp)]
 case pick a b c=>simp only[ah,h a (by simp),h b (by simp),h c (by simp)]
 case box t a=>simp only[ah,h a (by simp)]
 case build t ps =>
  have:=pL (ρ:=ρ) (ρ':=ρ') (l:=ps.toList) fun a ha=>h a (by simpa using ha)
  simp only[ah,this]
 case buildSlice t n ps =>
  have:=pL (ρ:=ρ) (ρ':=ρ') (l:=ps.toList) fun a ha=>h a (by simpa using ha)
  simp only[ah,this]
 case makeSlice t a b=>simp only[ah,intOf,h a (by simp),h b (by simp)]
 case load t a=>simp only[ah,h a (by simp)]
 case store t a v=>simp only[ah,h a (by simp),h v (by simp)]
 case nilCheck a=>simp only[ah,h a (by simp)]
 case binOp op t a b u=>simp only[ah,valOf,h a (by simp),h b (by simp)]
 case unOp op t a=>simp only[ah,valOf,h a (by simp)]
 case convert s d a=>simp only[ah,valOf,h a (by simp)]
 case makeFunc fn fs cs =>
  cases fn with
  | func f=>simp only[ah,jx (ρ:=ρ) (ρ':=ρ') (l:=fs.toList) fun a ha=>h a (by simp at ha ⊢; exact .inl ha),jx (ρ:=ρ) (ρ':=ρ') (l:=cs.toList) fun a ha=>h a (by simp at ha ⊢; exact .inr ha)]
  | _=>rfl
 case makeMap t r=>cases r<;>rfl
 case slice t a lo hi mx =>
  have h1:ρ a=ρ' a:=h a (by simp)
  have h2:=fun d m=>pS (ρ:=ρ) (ρ':=ρ') (a:=lo) (d:=d) (m:=m) fun b hb=>h b (by simp at hb ⊢; simp[hb])
  have h3:=fun d m=>pS (ρ:=ρ) (ρ':=ρ') (a:=hi) (d:=d) (m:=m) fun b hb=>h b (by simp at hb ⊢; simp[hb])
  have h4:=fun d m=>pS (ρ:=ρ) (ρ':=ρ') (a:=mx) (d:=d) (m:=m) fun b hb=>h b (by simp at hb ⊢; simp[hb])
  simp only[ah,h1,h2,h3,h4]
 case fieldAddr t a f=>simp only[ah,h a (by simp)]
 case field t a f=>simp only[ah,h a (by simp)]
 case indexAddr t a i=>simp only[ah,intOf,h a (by simp),h i (by simp)]
 case index t a i=>simp only[ah,intOf,h a (by simp),h i (by simp)]
 case lookup t a i ok=>simp only[ah,valOf,h a (by simp),h i (by simp)]
 case mapUpdate t m k v=>simp only[ah,valOf,h m (by simp),h k (by simp),h v (by simp)]
 case extract a i=>simp only[ah,h a (by simp)]
 case call c =>
  obtain⟨callee,args,ats⟩:=c
  cases callee with
  | builtin b =>
   simp only[Array.empty_append] at h
   have h1:∀ a∈args.toList,ρ a=ρ' a:=fun a ha=>h a (by simpa using ha)
   have h2:=jx h1
   simp only[ah]
   generalize args.toList=l at h1 h2
   generalize ats.toList=m
   cases b<;>try rfl
   ·match l,m with
    | [a,c],[t,u]=>simp only[h1 a (by simp),h1 c (by simp)]
    | [],_=>rfl
    | [_],_=>rfl
    | _::_::_::_,_=>rfl
    | [_,_],[]=>rfl
    | [_,_],[_]=>rfl
    | [_,_],_::_::_::_=>rfl
   ·match l,m with
    | [a],[t]=>simp only[h1 a (by simp)]
    | [],_=>rfl
    | _::_::_,_=>rfl
    | [_],[]=>rfl
    | [_],_::_::_=>rfl
   ·simp only[h2]
   ·simp only[h2]
  | value f =>
   have h1:ρ f=ρ' f:=h f (by simp)
   have h2:=jx (ρ:=ρ) (ρ':=ρ') (l:=args.toList) fun a ha=>h a (by simp at ha ⊢; exact .inr ha)
   simp only[ah,h1,h2]
  | invoke r m=>rfl
end Go.Di
end
section
namespace Go.Di
open Go Go.Conc Go.Co
open Go.ConcN (sumTo sumTo_upd sumTo_congr le_sumTo upd upd_same upd_ne)
variable {P:Program} {af:Machine→Trace→Prop} {ty:eY} {x:Cx} {aC:bk} {call:aW} {yf:dR}
def Er (ops:Array Oper):Prop:=∀ i o,ops[i]? = some o→∀ e∈o.after,Region.binds .any e=true→e.on<i
theorem BX {ops:Array Oper} (mI:Er ops) {i j:Nat} (hne:i≠j) (h:((Region.before ops).getD j 0).testBit i=true):i<j:=by
  have qJ:Closed ops fun k=>decide (k≤j):=by
    intro k o ho hk e he hb
    have:=mI k o ho e he hb
    simp only[decide_eq_true_eq] at hk ⊢
    omega
  have:=pU ops qJ j i h (by simp)
  simp only[decide_eq_true_eq] at this
  omega
theorem Je {ops:Array Oper} (mI:Er ops) {L:Nat→Bool} (hL:Closed ops L) {i j:Nat} {o:Oper} (ho:ops[i]? = some o) (hi:L i=false) (tc:∀ e∈o.after,Region.binds .any e=true→L e.on=true) (hne:i≠j)
    (h:((Region.before ops).getD j 0).testBit i=true∨((Region.before ops).getD i 0).testBit j=true):L j=true↔j<i:=by
  rcases h with h | h
  · have h1:=BX mI hne h
    refine⟨fun hj => ?_,fun hj=>by omega⟩
    have:=pU ops hL j i h hj
    rw[hi] at this
    cases this
  · have h1:=BX mI (Ne.symm hne) h
    refine⟨fun _=>h1,fun _ => ?_⟩
    have qJ:Closed ops (upd L i true):=by
      intro k o' jj hk e he hb
      by_cases LO:k=i
      · subst LO
        rw[ho] at jj
        cases jj
        by_cases Ic:e.on=k
        · rw[Ic,upd_same]
        · rw[upd_ne _ _ Ic]; exact tc e he hb
      · rw[upd_ne _ _ LO] at hk
        by_cases Ic:e.on=i
        · rw[Ic,upd_same]
        · rw[upd_ne _ _ Ic]; exact hL k o' jj hk e he hb
    have:=pU ops qJ i j h (upd_same _ _ _)
    rwa [upd_ne _ _ (Ne.symm hne)] at this
def lT (ops:Array Oper) (j:Nat) (t:Tmp):Bool:=match ops[j]? with
  | some o=>o.dst==some t
  | none=>false
def jO (ops:Array Oper) (V:Nat→DV) (L:Nat→Bool) (t:Tmp):Nat→Option DV
  | 0=>none
  | n+1=>if L n&&lT ops n t then some (V n) else jO ops V L t n
theorem iN {ops:Array Oper} {V:Nat→DV} {L:Nat→Bool} {t:Tmp} {i:Nat}:∀ {n:Nat},i≤n→(∀ j,j<n→lT ops j t=true→(L j=true↔j<i))→jO ops V L t n=jO ops V (fun _=>true) t i
  | 0,h,_=>by
    have:i=0:=by omega
    subst this; rfl
  | n+1,h,hj=>by
    by_cases lQ:i=n+1
    · subst lQ
      unfold jO
      by_cases hd:lT ops n t=true
      · have:=(hj n (by omega) hd).2 (by omega)
        simp only[this,hd,Bool.and_self,if_true]
      · simp only[Bool.and_eq_true,hd,and_false,if_false,Bool.false_eq_true]
        exact iN (Nat.le_refl _) fun j h1 h2=>⟨fun _=>h1,fun _=>(hj j (Nat.lt_succ_of_lt h1) h2).2 (Nat.lt_succ_of_lt h1)⟩
    · have hle:i≤n:=by omega
      rw[← iN hle fun j h1 h2=>hj j (by omega) h2]
      conv=>lhs; unfold jO
      by_cases hd:lT ops n t=true
      · have:L n=false:=by
          cases hLn:L n with
          | false=>rfl
          | true=>have:=(hj n (by omega) hd).1 hLn; omega
        rw[this]
        simp
      · simp[hd]
theorem wT {ops:Array Oper} {V:Nat→DV} {L:Nat→Bool} {t:Tmp} {i:Nat} (hd:lT ops i t=false):∀ n,jO ops V (upd L i true) t n=jO ops V L t n
  | 0=>rfl
  | n+1=>by
    unfold jO
    rw[wT hd n]
    by_cases h:n=i
    · subst h; simp[hd]
    · rw[upd_ne _ _ h]
def Bc (ops:Array Oper) (V:Nat→DV) (L:Nat→Bool) (n:Nat) (acF env:List DV):Prop:=∀ t,env[t]? = (acF[t]?).map fun d=>(jO ops V L t n).getD d
theorem ER (env:List DV) (dst:Option Tmp) (v:DV) (t:Tmp):(eP env dst v)[t]? = if dst=some t then (env[t]?).map fun _=>v else env[t]? := by
  cases dst with
  | none=>simp[eP]
  | some d =>
    simp only[eP,List.getElem?_set,Option.some.injEq]
    by_cases h:d=t
    · subst h
      by_cases hl:d<env.length
      · simp[hl]
      · simp[hl]
    · simp[h]
def II (ops:Array Oper) (V:Nat→DV) (E:Nat→List DV):Prop:=∀ j o,ops[j]? = some o→E (j+1)=eP (E j) o.dst (V j)
theorem xK {ops:Array Oper} {V:Nat→DV} {E:Nat→List DV} (h:II ops V E):∀ i,i≤ops.size→Bc ops V (fun _=>true) i (E 0) (E i)
  | 0,_=>fun t=>by simp[jO]
  | i+1,hi=>fun t=>by
    have ho:ops[i]? = some ops[i]:=Array.getElem?_eq_getElem (by omega)
    have ih:=xK h i (by omega) t
    rw[h i _ ho,ER]
    unfold jO
    have hd:lT ops i t=(ops[i].dst==some t):=by unfold lT; rw[ho]
    by_cases Qt:ops[i].dst=some t
    · simp only[Qt,if_true,hd,beq_self_eq_true,Bool.and_self,Option.getD_some,ih,Option.map_map]
      rfl
    · have:(ops[i].dst==some t)=false:=by simpa using Qt
      simp only[Qt,if_false,hd,this,Bool.and_false,Bool.false_eq_true]
      exact ih
theorem BR {ops:Array Oper} {V:Nat→DV} {E:Nat→List DV} {L:Nat→Bool} {env:List DV} {i:Nat} {o:Oper} (ho:ops[i]? = some o) (hE:Bc ops V L ops.size (E 0) env)
    (aaR:∀ t,o.dst=some t→∀ j,j<ops.size→lT ops j t=true→(upd L i true j=true↔j<i+1)):Bc ops V (upd L i true) ops.size (E 0) (eP env o.dst (V i)):=by
  intro t
  have hi:i<ops.size:=(Array.getElem?_eq_some_iff.1 ho).1
  rw[ER]
  have hd:lT ops i t=(o.dst==some t):=by unfold lT; rw[ho]
  by_cases Qt:o.dst=some t
  · have e:jO ops V (fun _=>true) t (i+1)=some (V i):=by unfold jO; simp[hd,Qt]
    rw[if_pos Qt,iN (i:=i+1) (by omega) (aaR t Qt),hE t,e]
    simp[Function.comp_def]
  · have h2:lT ops i t=false:=by rw[hd]; simpa using Qt
    rw[if_neg Qt,wT h2]
    exact hE t
theorem wQ {ops:Array Oper} (mI:Er ops) (B4:iX ops (Region.before ops)=true) {V:Nat→DV} {E:Nat→List DV} (hS:II ops V E) {L:Nat→Bool} (hL:Closed ops L) {env:List DV} (hE:Bc ops V L ops.size (E 0) env) {i:Nat} {o:Oper} (ho:ops[i]? = some o) (hi:L i=false)
    (tc:∀ e∈o.after,Region.binds .any e=true→L e.on=true):(∀ t∈iY ops o,env[t]? = (E i)[t]?)∧∀ t,o.dst=some t→∀ j,j<ops.size→lT ops j t=true→(upd L i true j=true↔j<i+1):=by
  have Yi:i<ops.size:=(Array.getElem?_eq_some_iff.1 ho).1
  have hx:∀ t∈iY ops o,∀ j,j<ops.size→j≠i→lT ops j t=true→(L j=true↔j<i):=by
    intro t ht j hj hne hd
    have hoj:ops[j]? = some ops[j]:=Array.getElem?_eq_getElem hj
    have LP:ops[j].dst=some t:=by unfold lT at hd; rw[hoj] at hd; simpa using hd
    refine Je mI hL ho hi tc (Ne.symm hne) ?_
    unfold iX at B4
    simp only[Bool.and_eq_true,List.all_eq_true] at B4
    have h1:=B4.2 (o,i) (by rw[List.mem_zipIdx_iff_getElem?]; simpa using ho) (ops[j],j) (by rw[List.mem_zipIdx_iff_getElem?]; simp)
    simp only[LP] at h1
    have hc:(iY ops o).contains t=true:=by simpa using ht
    simp only[hc,Bool.not_true,Bool.or_false,Bool.or_eq_true,beq_iff_eq] at h1
    rcases h1 with (h1 | h1) | h1
    · exact absurd h1.symm hne
    · exact .inl h1
    · exact .inr h1
  constructor
  · intro t ht
    rw[hE t,xK hS i (by omega) t]
    congr 1
    funext d
    rw[iN (i:=i) (by omega) fun j hj hd => ?_]
    by_cases eH:j=i
    · subst eH; simp[hi]
    · exact hx t ht j hj eH hd
  · intro t ht j hj hd
    by_cases eH:j=i
    · subst eH; simp[upd_same]
    · rw[upd_ne _ _ eH,hx t (by simp[iY,ht]) j hj eH hd]
      omega
theorem BP {ops:Array Oper} {o:Oper} {env ax:List DV} (h:∀ t∈iY ops o,env[t]? = ax[t]?):∀ a∈o.op.operands,ga env a=ga ax a:=by
  intro a ha
  cases a with
  | tmp t =>
    have:t∈iY ops o:=by
      unfold iY
      simp only[List.mem_append]
      left; right
      rw[List.mem_filterMap]
      exact⟨.tmp t,by simpa using ha,rfl⟩
    simp only[ga,List.getD_eq_getElem?_getD,h t this]
  | _=>rfl
theorem uw {ops:Array Oper} {o:Oper} {env ax:List DV} (h:∀ t∈iY ops o,env[t]? = ax[t]?):bD ops env o=bD ops ax o:=by
  unfold bD
  cases hg:o.guard with
  | none=>rfl
  | some g =>
    obtain⟨j,want⟩:=g
    simp only
    cases hb:(ops[j]?).bind (·.dst) with
    | none=>rfl
    | some t =>
      have:t∈iY ops o:=by
        unfold iY
        rw[hg]
        simp[hb]
      simp only[h t this]
theorem EU {ops:Array Oper} (h:iX ops (Region.before ops)=true):Er ops:=by
  intro i o ho e he hb
  unfold iX at h
  simp only[Bool.and_eq_true,List.all_eq_true,Array.all_eq_true'] at h
  have h1:=h.1 (o,i) (by rw[List.mem_zipIdx_iff_getElem?]; simpa using ho) e he
  simpa [hb] using h1
theorem EL {ops:Array Oper} {S:ak}:∀ {r:List Oper} {env ax:List DV},mq P ty aC call yf ops S r env=some ax→∃ (E:Nat→List DV) (V:Nat→DV),E 0=env∧E r.length=ax ∧
    ∀ j o,r[j]? = some o→E (j+1)=eP (E j) o.dst (V j)∧(bD ops (E j) o=true→b7 P ty aC call yf (ga (E j)) o S=some (V j))∧(bD ops (E j) o=false→V j=aO)
  | [],env,ax,h=>by
    simp only[mq,Option.some.injEq] at h
    exact⟨fun _=>env,fun _=>aO,rfl,h,by simp⟩
  | o::r,env,ax,h=>by
    unfold mq at h
    have key:∀ v,mq P ty aC call yf ops S r (eP env o.dst v)=some ax→(bD ops env o=true→b7 P ty aC call yf (ga env) o S=some v)→(bD ops env o=false→v=aO)→∃ (E:Nat→List DV) (V:Nat→DV),E 0=env∧E (o::r).length=ax ∧
        ∀ j o',(o::r)[j]? = some o'→E (j+1)=eP (E j) o'.dst (V j)∧(bD ops (E j) o'=true→b7 P ty aC call yf (ga (E j)) o' S=some (V j))∧(bD ops (E j) o'=false→V j=aO):=fun v h1 h2 h3=>by
      obtain⟨E,V,e1,e2,e3⟩:=EL h1
      refine⟨fun n=>match n with | 0=>env | n+1=>E n,fun n=>match n with | 0=>v | n+1=>V n,rfl,by simpa using e2,fun j o' jj => ?_⟩
      cases j with
      | zero =>
        simp only[List.getElem?_cons_zero,Option.some.injEq] at jj
        subst jj
        exact⟨e1,h2,h3⟩
      | succ j=>exact e3 j o' (by simpa using jj)
    split at h
    · rename_i hw
      split at h
      · rename_i v h1
        exact key v h (fun _=>h1) fun hf=>by rw[hw] at hf; cases hf
      · cases h
    · rename_i hw
      exact key aO h (fun ht=>absurd ht hw) fun _=>rfl
theorem quiet_step {ρ:Operand→Option DV} {o:Oper} {S:ak} {v:DV} (h:b7 P ty aC call yf ρ o S=some v):ah P ty aC call yf ρ o S S.length=some (v,S):=by
  obtain⟨dst,op,type,pos,after,guard⟩:=o
  have gen:∀ {q:Option (DV×ak)},q.map (·.1)=some v→(∀ d S',q=some (d,S')→S'=S)→q=some (v,S):=by
    intro q hq hs
    simp only[Option.map_eq_some_iff] at hq
    obtain⟨⟨d,S'⟩,h1,rfl⟩:=hq
    rw[h1,hs d S' h1]
  have mp:∀ {β:Type} {q:Option β} {f:β→DV} {d:DV} {S':ak},q.map (fun c=>(f c,S))=some (d,S')→S'=S:=by
    intro β q f d S' hq
    simp only[Option.map_eq_some_iff,Prod.mk.injEq] at hq
    obtain⟨_,_,_,h⟩:=hq
    exact h.symm
  cases op<;>simp only[b7] at h
  case call c =>
    obtain⟨callee,args,ats⟩:=c
    cases callee with
    | builtin b =>
      cases b<;>simp only at h<;>first | cases h | skip
      all_goals
        refine gen h fun d S' hq => ?_
        simp only[ah] at hq
        repeat' split at hq
        all_goals first | contradiction | exact mp (f:=id) hq | exact mp hq | (cases hq; rfl) | (cases hq; done) | skip
    | value f =>
      simp only at h
      split at h
      · rename_i g fs cs xs hf L8
        split at h
        · cases h
        rename_i hh
        split at h
        · rename_i hp
          simp only[ah,hf,L8,tH,hp,if_true,h]
        · cases h
      · cases h
    | invoke r m=>simp[ah] at h
  case buildSlice t n ps =>
    split at h
    · cases h
    · rename_i hh
      refine gen h fun d S' hq => ?_
      simp only[ah] at hq
      repeat' split at hq
      all_goals first | contradiction | (cases hq; first | rfl | contradiction)
  all_goals first
    | cases h
    | (refine gen h fun d S' hq => ?_
       simp only[ah] at hq
       repeat' split at hq
       all_goals first | contradiction | exact mp (f:=id) hq | exact mp hq | (cases hq; rfl) | (cases hq; done) | skip)
theorem FJ {ρ ρ':Operand→Option DV} {o:Oper} {S:ak} (h:∀ a∈o.op.operands,ρ a=ρ' a):b7 P ty aC call yf ρ o S=b7 P ty aC call yf ρ' o S:=by
  have hs:=uD (P:=P) (ty:=ty) (aC:=aC) (call:=call) (yf:=yf) (S:=S) (ay:=S.length) h
  unfold b7
  split<;>try rfl
  · rw[hs]
  · rename_i f args ats hop
    rw[hop] at h
    have h1:ρ f=ρ' f:=h f (by simp[Op.operands,Call.operands])
    have h2:=jx (ρ:=ρ) (ρ':=ρ') (l:=args.toList) fun a ha=>h a (by simp[Op.operands,Call.operands] at ha ⊢; exact .inr ha)
    rw[h1,h2]
  · rw[hs]
theorem Hp (hP:Plain P) (dx:gY P ty) (hc:gz P af call) (hi:tN P af aC) (F6:tJ P af yf) {ops:Array Oper} {b:Frame} {k:List Item} {cs:List Frame} (hk:b.kind ≠ .early) (B4:iX ops (Region.before ops)=true)
    {env ax:List DV} {a:Act} (h:mq P ty aC call yf ops x.S ops.toList env=some ax) (hR:Rel x) (he:en x env a.tmps)
    (hn:∀ y a',y.S=x.S→Rel y→bh x y→en y ax a'.tmps→a'.defers=a.defers→ff P af () (G (b.atR a' k) cs) y.w) (t:Nat):ff P af () (G (b.atR a (.inRegion ops (Region.linearise .any ops t)::k)) cs) x.w:=by
  have mI:=EU B4
  obtain⟨E,V,e1,e2,e3⟩:=EL h
  have Ci:∀ (j:Nat) (o:Oper),ops[j]? = some o→ops.toList[j]? = some o:=fun j o ho=>by simpa using ho
  have hS:II ops V E:=fun j o ho=>(e3 j o (Ci j o ho)).1
  refine rD mI (σ:=Act×Cx) (fun todo s=>s.2.S=x.S→Rel s.2→bh x s.2→s.1.defers=a.defers→ff P af () (G (b.atR s.1 (.inRegion ops todo::k)) cs) s.2.w)
    (fun L s=>∃ jM,en s.2 jM s.1.tmps∧Bc ops V L ops.size (E 0) jM) ?_ ?_ t (a,x) ⟨env,he,fun t => ?_⟩ rfl hR (bh.refl x) rfl
  · rintro L ⟨a1,y⟩ i o ⟨jM,uO,Qx⟩ qJ ho hLi tc rest yq Yq Ge Mj Gb
    simp only at uO Yq Ge Mj Gb ⊢
    obtain⟨q1,q2⟩:=wQ mI B4 hS qJ Qx ho hLi tc
    have hw:=uw q1
    have PU:=vt uO ops o
    have Zc:=BR (V:=V) ho Qx q2
    by_cases UY:bD ops (E i) o=true
    · have hq:=(e3 i o (Ci i o ho)).2.1 UY
      rw[← FJ (BP q1),← Yq] at hq
      refine D8 hP dx hc hi F6 hk ho (by rw[PU,hw]; exact UY) Ge (.inl rfl) uO (quiet_step hq) fun z u zS zR zM zV => ?_
      have kS:=nF (uO.mono zM) (dst:=o.dst) zV
      exact yq (a1.put o.dst u,z) ⟨_,kS.1,Zc⟩ (zS.trans Yq) zR (Mj.trans zM) (kS.2.trans Gb)
    · have UZ:bD ops (E i) o=false:=by simpa using UY
      have hv:=(e3 i o (Ci i o ho)).2.2 UZ
      have kS:=nF uO (dst:=o.dst) (d:=V i) (v:=undef) (by rw[hv]; exact .val rfl)
      exact cF hP (fun w=>⟨_,pK ho (by rw[PU,hw]; exact UZ)⟩) (yq (a1.put o.dst undef,y) ⟨_,kS.1,Zc⟩ Yq Ge Mj (kS.2.trans Gb))
  · rintro L ⟨a1,y⟩ ⟨jM,uO,Qx⟩ dG Yq Ge Mj Gb
    have:jM=ax:=by
      refine List.ext_getElem? fun t => ?_
      have hlen:E ops.size=ax:=by simpa using e2
      rw[Qx t,← hlen,xK hS ops.size (Nat.le_refl _) t]
      congr 1
      funext d
      rw[iN (i:=ops.size) (Nat.le_refl _) fun j hj _=>by simp[dG j hj,hj]]
    subst this
    exact cF hP (fun w=>⟨_,jJ⟩) (hn y a1 Yq Ge Mj uO Gb)
  · rw[e1]
    have:∀ n,jO ops V (fun _=>false) t n=none:=by
      intro n
      induction n with
      | zero=>rfl
      | succ n ih=>unfold jO; simp[ih]
    rw[this]
    simp
end Go.Di
end
section
namespace Go.Di
open Go Go.Conc Go.Co
open Go.ConcN (upd upd_same upd_ne)
variable {P:Program} {af:Machine→Trace→Prop} {ty:eY} {x:Cx} {aC:bk} {call:aW} {yf:dR}
def appW (w:Option (Nat×DB)) (S:ak):ak:=match w with
 | none=>S
 | some (i,b)=>S.set i b
theorem lV {S:ak} {i:Nat} (h:i<S.length) (b:DB):di S i b=S.set i b:=by unfold di; rw[if_pos h]
theorem fE {S:ak} {i:Nat} {b:DB} (h:S[i]? = some b):i<S.length:=(List.getElem?_eq_some_iff.1 h).1
def qm:Op→Prop
 | .alloc _ | .box .. | .makeMap .. | .load .. | .store .. | .lookup .. | .mapUpdate .. | .makeSlice .. | .buildSlice .. | .fieldAddr .. | .indexAddr .. => False
 | .call { callee := .builtin .append,.. }=>False
 | .call { callee := .builtin _,.. }=>True
 | .call _=>False
 | _=>True
theorem map_fst {β:Type} (q:Option β) (f:β→DV) (S T:ak):q.map (fun c=>(f c,S))=((q.map (fun c=>(f c,T))).map (·.1)).map (·,S):=by cases q<;>rfl
theorem zL {ρ:Operand→Option DV} {o:Oper} (hop:qm o.op) (S:ak) (ay:Nat):ah P ty aC call yf ρ o S ay=((ah P ty aC call yf ρ o [] 0).map (·.1)).map (·,S):=by
 obtain⟨dst,op,type,pos,after,guard⟩:=o
 cases op<;>simp only[qm] at hop
 case call c =>
  obtain⟨callee,args,ats⟩:=c
  cases callee with
  | builtin b =>
   simp only[ah]
   generalize args.toList=l
   generalize ats.toList=m
   split
   ·split<;>first | rfl | exact map_fst (f:=id) _ S []
   ·exact hop.elim
   ·split<;>first | rfl | exact map_fst (f:=id) _ S []
   ·split<;>first | rfl | exact map_fst (f:=id) _ S []
   ·rfl
  | value f=>exact hop.elim
  | invoke r m=>exact hop.elim
 case makeFunc fn fs cs=>cases fn<;>simp only[ah]<;>(repeat' split)<;>rfl
 all_goals simp only[ah]
 all_goals (repeat' split)
 all_goals first
  | rfl
  | exact map_fst (f:=id) _ S []
  | exact map_fst _ _ S []
theorem yW {ρ:Operand→Option DV} {o:Oper} (hop:qm o.op) {S S':ak} {ay:Nat} {v:DV} (h:ah P ty aC call yf ρ o S ay=some (v,S')):S'=S∧∀ T qM,ah P ty aC call yf ρ o T qM=some (v,T):=by
 rw[zL hop] at h
 simp only[Option.map_eq_some_iff,Prod.mk.injEq] at h
 obtain⟨d,h1,h2,h3⟩:=h
 refine⟨h3.symm,fun T qM => ?_⟩
 rw[zL hop]
 simp only[Option.map_eq_some_iff,Prod.mk.injEq]
 exact⟨d,h1,h2,trivial⟩
structure Eff (P:Program) (ty:eY) (aC:bk) (call:aW) (yf:dR) (ρ:Operand→Option DV) (o:Oper) (S:ak) (ay:Nat) (v:DV) (S':ak) (f:cu) (F:List Nat) (w:Option (Nat×DB)):Prop where
 res:S'=appW w S
 Cj:∀ i b,w=some (i,b)→i∈F∧f.wr=true∧i<S.length
 loc:∀ T,(F≠[]→T.length=S.length)→(∀ x∈F,T[x]? = S[x]?)→aB P ty aC call yf ρ o T ay=some (v,appW w T,f)
theorem Lf {S T:ak} {t:TypeId} {id off:Nat} (h:T[id]? = S[id]?):iq ty T t (.ptr id off)=iq ty S t (.ptr id off):=by
 unfold iq
 cases ty t with
 | none=>rfl
 | some d=>simp only[h]
theorem HA {S T:ak} {t:TypeId} {rows:List DV} {i off:Nat}:iq ty T t (.cV rows i off)=iq ty S t (.cV rows i off):=by unfold iq; cases ty t<;>rfl
theorem Cr {S T:ak} {id n:Nat} (h:T[id]? = S[id]?):Aq T id n=Aq S id n:=by unfold Aq; rw[h]
theorem Hy {S T:ak} {t:TypeId} {id n off:Nat} (h:T[id]? = S[id]?):iq ty T t (.dM id n off)=iq ty S t (.dM id n off):=by
 unfold iq
 cases ty t with
 | none=>rfl
 | some d=>simp only[Cr h]
theorem nu {ρ:Operand→Option DV} {dst:Option Tmp} {t type:TypeId} {a:Operand} {f:Nat} {pos:String} {after:Array Edge} {guard:Option (Nat×Bool)} {S S' T:ak} {ay:Nat} {v:DV} (hT:∀ id n off,ρ a=some (.dM id n off)→T[id]? = S[id]?)
  (h:ah P ty aC call yf ρ ⟨dst,.fieldAddr t a f,type,pos,after,guard⟩ S ay=some (v,S')):S'=S∧∀ qM,ah P ty aC call yf ρ ⟨dst,.fieldAddr t a f,type,pos,after,guard⟩ T qM=some (v,T):=by
 simp only[ah] at h ⊢
 split at h
 ·rename_i hk ha
  split at h
  ·rename_i hf
   split at h
   ·rename_i hs
    cases h
    exact⟨rfl,fun _=>by simp only[hk,ha,hf,if_pos hs]⟩
   ·cases h
  ·cases h
 ·rename_i hk ha
  split at h
  ·rename_i hf
   split at h
   ·rename_i hs
    cases h
    exact⟨rfl,fun _=>by simp only[hk,ha,hf,if_pos hs]⟩
   ·cases h
  ·cases h
 ·rename_i hk ha
  split at h
  ·rename_i hf hop
   split at h
   ·rename_i hs
    cases h
    exact⟨rfl,fun _=>by simp only[hk,ha,hf,Cr (hT _ _ _ ha),hop,if_pos hs]⟩
   ·cases h
  ·cases h
 ·cases h
theorem nj {ρ:Operand→Option DV} {dst:Option Tmp} {t type:TypeId} {a i:Operand} {pos:String} {after:Array Edge} {guard:Option (Nat×Bool)} {S S' T:ak} {ay:Nat} {v:DV} (hT:∀ id n ag,ρ a=some (.gI id n ag)→T[id]? = S[id]?)
  (h:ah P ty aC call yf ρ ⟨dst,.indexAddr t a i,type,pos,after,guard⟩ S ay=some (v,S')):S'=S∧∀ qM,ah P ty aC call yf ρ ⟨dst,.indexAddr t a i,type,pos,after,guard⟩ T qM=some (v,T):=by
 simp only[ah] at h ⊢
 split at h
 ·rename_i hk ha hi
  split at h
  ·rename_i h0
   split at h
   ·rename_i r hr
    split at h
    ·rename_i hs
     cases h
     exact⟨rfl,fun _=>by simp only[hk,ha,hi,if_pos h0,hr,if_pos hs]⟩
    ·cases h
   ·cases h
  ·cases h
 ·rename_i hk ha hi
  split at h
  ·rename_i h0
   cases h
   exact⟨rfl,fun _=>by simp only[hk,ha,hi,if_pos h0]⟩
  ·cases h
 ·rename_i hk ha hi
  split at h
  ·rename_i h0
   cases h
   exact⟨rfl,fun _=>by simp only[hk,ha,hi,if_pos h0]⟩
  ·cases h
 ·rename_i hk ha hi
  split at h
  ·rename_i hop
   split at h
   ·rename_i h0
    cases h
    exact⟨rfl,fun _=>by simp only[hk,ha,hi,Cr (hT _ _ _ ha),hop,if_pos h0]⟩
   ·cases h
  ·cases h
 ·cases h
theorem BW {ρ:Operand→Option DV} {o:Oper} {t:TypeId} {n:Nat} {ps:Array (Nat×Operand)} {S S':ak} {ay:Nat} {v:DV} (ho:o.op = .buildSlice t n ps) (hh:ty.h o≠1)
  (h:ah P ty aC call yf ρ o S ay=some (v,S')):S'=S∧∀ (T:ak) (qM:Nat),ah P ty aC call yf ρ o T qM=some (v,T):=by
 simp only[ah,ho] at h ⊢
 split at h
 ·rename_i hk hl
  split at h
  ·rename_i he
   split at h
   ·rename_i hc
    split at h
    ·rename_i hf
     split at h
     ·rename_i hp
      cases h
      exact⟨rfl,fun T qM=>by simp only[if_pos hc,if_pos hp]⟩
     ·cases h
    ·cases h
   ·cases h
  ·cases h
 ·cases h
theorem FV {S S':ak} {ay:Nat} {t:TypeId} {a b v:DV} (h:gO ty S ay t a b=some (v,S')) (hn:ay<S.length):∃ w,S'=appW w S∧(∀ i c,w=some (i,c)→(i=ay∨∃ r tk f,a = .sl r (some tk) f∧i=tk)∧i<S.length) ∧
  ∀ T:ak,T.length=S.length→(∀ r tk f,a = .sl r (some tk) f→T[tk]? = S[tk]?)→gO ty T ay t a b=some (v,appW w T):=by
 unfold gO at h ⊢
 split at h
 ·rename_i e s ji agg sz z rows tok full news B9 UF Tt
  split at h
  ·rename_i qQ
   cases h
   exact⟨none,rfl,by simp,fun T _ _=>by simp only[qQ,if_true]; rfl⟩
  ·rename_i qQ
   split at h
   ·rename_i hte
    split at h
    ·rename_i hc
     cases tok with
     | none =>
      simp only at h
      split at h
      ·rename_i hf
       cases h
       refine⟨some (ay,.tail e s ((rows.length+news.length)*s)),lV hn _,fun i c hw => ?_,fun T hT _ => ?_⟩
       ·cases hw; exact⟨.inl rfl,hn⟩
       ·simp only[qQ,hc,hf,if_true,Bool.false_eq_true,if_false]
        rw[lV (by omega)]
        rfl
      ·cases h
     | some tk =>
      simp only at h
      split at h
      ·rename_i e' s' n' hS
       split at h
       ·rename_i uT
        cases h
        refine⟨some (tk,.tail e s ((rows.length+news.length)*s)),rfl,fun i c hw => ?_,fun T hT hl => ?_⟩
        ·cases hw; exact⟨.inr ⟨rows,tk,full,rfl,rfl⟩,fE hS⟩
        ·have Y9:T[tk]? = some (.tail e' s' n'):=(hl rows tk full rfl).trans hS
         simp only[qQ,hc,Y9,uT,if_true,Bool.false_eq_true,if_false]
         rfl
       ·cases h
      ·cases h
    ·cases h
   ·cases h
 ·cases h
theorem K7 {g:FuncId} {args:List DV} {S:ak} {i:Nat} {v:DV} {l:List DV} (h:wq call g args S=some (i,v,l)):i<S.length∧∀ T:ak,T[i]? = S[i]? → wq call g args T=some (i,v,l):=by
 unfold wq at h ⊢
 split at h
 ·rename_i j off rest
  split at h
  ·rename_i l0 hj
   split at h
   ·rename_i hc
    split at h
    ·rename_i v2 l' T2 gq
     split at h
     ·rename_i hq
      cases h
      refine⟨fE hj,fun T hT => ?_⟩
      rw[hj] at hT
      simp only[hT,if_pos hc,gq,if_pos hq]
     ·cases h
    ·cases h
   ·cases h
  ·cases h
 ·cases h
theorem N2 {ρ:Operand→Option DV} {o:Oper} {S S':ak} {ay:Nat} {v:DV} {f:cu} (h:aB P ty aC call yf ρ o S ay=some (v,S',f)) {F:List Nat} (hF:f.ids=some F):∃ w,Eff P ty aC call yf ρ o S ay v S' f F w:=by
 obtain⟨dst,op,type,pos,after,guard⟩:=o
 have plain:∀ (hop:qm op),(ah P ty aC call yf ρ ⟨dst,op,type,pos,after,guard⟩ S ay).map (fun r=>(r.1,r.2,(⟨some [],false⟩:cu)))=some (v,S',f)→(∀ T,aB P ty aC call yf ρ ⟨dst,op,type,pos,after,guard⟩ T ay=(ah P ty aC call yf ρ ⟨dst,op,type,pos,after,guard⟩ T ay).map (fun r=>(r.1,r.2,(⟨some [],false⟩:cu))))→∃ w,Eff P ty aC call yf ρ ⟨dst,op,type,pos,after,guard⟩ S ay v S' f F w:=by
  intro hop h1 h2
  simp only[Option.map_eq_some_iff,Prod.mk.injEq] at h1
  obtain⟨⟨d,S1⟩,h3,rfl,rfl,rfl⟩:=h1
  obtain⟨h4,h5⟩:=yW hop h3
  exact⟨none,h4,by simp,fun T _ _=>by rw[h2,h5 T ay]; rfl⟩
 cases op
 case alloc e =>
  simp only[aB] at h
  split at h
  ·rename_i hS
   have hlt:=fE hS
   simp only[ah] at h
   split at h
   ·rename_i hk
    cases h
    cases hF
    refine⟨some (ay,_),lV hlt _,fun i b hw=>by cases hw; exact⟨by simp,rfl,hlt⟩,fun T hT hx => ?_⟩
    have:=hx ay (by simp)
    have hl:=hT (by simp)
    simp only[aB,this,hS,ah,hk,Option.map_some]
    rw[lV (by omega)]
    rfl
   ·cases h
  ·cases h
 case box e a =>
  simp only[aB] at h
  split at h
  ·rename_i hS
   have hlt:=fE hS
   simp only[ah] at h
   split at h
   ·rename_i hk
    cases h
    cases hF
    refine⟨some (ay,_),lV hlt _,fun i b hw=>by cases hw; exact⟨by simp,rfl,hlt⟩,fun T hT hx => ?_⟩
    have:=hx ay (by simp)
    have hl:=hT (by simp)
    simp only[aB,this,hS,ah,hk,Option.map_some]
    rw[lV (by omega)]
    rfl
   ·cases h
  ·cases h
 case makeMap t r =>
  cases r with
  | some a =>
   simp only[aB] at h
   split at h
   ·simp[ah] at h
   ·cases h
  | none =>
   simp only[aB] at h
   split at h
   ·rename_i hS
    have hlt:=fE hS
    simp only[ah] at h
    cases h
    cases hF
    refine⟨some (ay,_),lV hlt _,fun i b hw=>by cases hw; exact⟨by simp,rfl,hlt⟩,fun T hT hx => ?_⟩
    have:=hx ay (by simp)
    have hl:=hT (by simp)
    simp only[aB,this,hS,ah,Option.map_some]
    rw[lV (by omega)]
    rfl
   ·cases h
 case store t a b =>
  simp only[aB] at h
  split at h
  ·rename_i id off ha
   simp only[ah,ha] at h
   split at h
   ·rename_i a' v' h1 h2
    cases h1
    unfold lu at h
    split at h
    ·rename_i td gJ qL hk U8
     cases U8
     split at h
     ·rename_i l hl
      split at h
      ·rename_i hc
       simp only[Option.map_map,Option.map_eq_some_iff,Function.comp_apply,Prod.mk.injEq] at h
       obtain⟨l',h3,rfl,rfl,rfl⟩:=h
       cases hF
       refine⟨some (id,.cells l'),rfl,fun i b hw=>by cases hw; exact⟨by simp,rfl,fE hl⟩,fun T hT hx => ?_⟩
       have:=hx id (by simp)
       simp only[aB,ha,ah,h2,lu,hk,this,hl,hc,if_true,h3,Option.map_some]
       rfl
      ·cases h
     ·cases h
    ·rename_i U8; cases U8
    ·cases h
   ·cases h
  ·rename_i id n off ha
   simp only[ah,ha] at h
   split at h
   ·rename_i a' v' h1 h2
    cases h1
    unfold lu at h
    split at h
    ·rename_i U8; cases U8
    ·rename_i td gJ n' qL hk U8
     cases U8
     split at h
     ·rename_i e s l hop
      have hl:=(jb hop).1
      split at h
      ·rename_i hc
       simp only[Option.map_map,Option.map_eq_some_iff,Function.comp_apply,Prod.mk.injEq] at h
       obtain⟨l',h3,rfl,rfl,rfl⟩:=h
       cases hF
       refine⟨some (id,.op e s l' false),rfl,fun i b hw=>by cases hw; exact⟨by simp,rfl,fE hl⟩,fun T hT hx => ?_⟩
       have:=hx id (by simp)
       simp only[aB,ha,ah,h2,lu,hk,Cr this,hop,hc,if_true,h3,Option.map_some]
       rfl
      ·cases h
     ·cases h
    ·cases h
   ·cases h
  ·cases h
 case makeSlice t a b=>simp only[aB] at h; cases h
 case buildSlice t n ps =>
  simp only[aB] at h
  split at h
  ·cases h
  ·rename_i hh
   simp only[Option.map_eq_some_iff,Prod.mk.injEq] at h
   obtain⟨⟨d,S1⟩,h3,rfl,rfl,rfl⟩:=h
   cases hF
   obtain⟨h4,h5⟩:=BW rfl hh h3
   refine⟨none,h4,by simp,fun T hT hx => ?_⟩
   simp only[aB,h5 T ay,Option.map_some]
   rfl
 case fieldAddr t a f' =>
  simp only[aB] at h
  split at h
  ·rename_i id n off ha
   simp only[Option.map_eq_some_iff,Prod.mk.injEq] at h
   obtain⟨⟨d,S1⟩,h3,rfl,rfl,rfl⟩:=h
   cases hF
   refine⟨none,(nu (T:=S) (fun _ _ _ _=>rfl) h3).1,by simp,fun T hT hx => ?_⟩
   have h5:=(nu (T:=T) (fun gJ n' qL he=>by rw[ha] at he; cases he; exact hx id (by simp)) h3).2 ay
   simp only[aB,ha,h5,Option.map_some]
   rfl
  ·rename_i hno
   simp only[Option.map_eq_some_iff,Prod.mk.injEq] at h
   obtain⟨⟨d,S1⟩,h3,rfl,rfl,rfl⟩:=h
   cases hF
   refine⟨none,(nu (T:=S) (fun _ _ _ _=>rfl) h3).1,by simp,fun T hT hx => ?_⟩
   have h5:=(nu (T:=T) (fun gJ n' qL he=>absurd he (hno _ _ _)) h3).2 ay
   simp only[aB,h5,Option.map_some]
   rfl
 case indexAddr t a i =>
  simp only[aB] at h
  split at h
  ·rename_i id n ag ha
   simp only[Option.map_eq_some_iff,Prod.mk.injEq] at h
   obtain⟨⟨d,S1⟩,h3,rfl,rfl,rfl⟩:=h
   cases hF
   refine⟨none,(nj (T:=S) (fun _ _ _ _=>rfl) h3).1,by simp,fun T hT hx => ?_⟩
   have h5:=(nj (T:=T) (fun gJ n' qL he=>by rw[ha] at he; cases he; exact hx id (by simp)) h3).2 ay
   simp only[aB,ha,h5,Option.map_some]
   rfl
  ·rename_i hno
   simp only[Option.map_eq_some_iff,Prod.mk.injEq] at h
   obtain⟨⟨d,S1⟩,h3,rfl,rfl,rfl⟩:=h
   cases hF
   refine⟨none,(nj (T:=S) (fun _ _ _ _=>rfl) h3).1,by simp,fun T hT hx => ?_⟩
   have h5:=(nj (T:=T) (fun gJ n' qL he=>absurd he (hno _ _ _)) h3).2 ay
   simp only[aB,h5,Option.map_some]
   rfl
 case load t a =>
  simp only[aB] at h
  split at h
  ·rename_i id off ha
   simp only[ah,ha] at h
   simp only[Option.map_map,Option.map_eq_some_iff,Function.comp_apply,Prod.mk.injEq] at h
   obtain⟨d,h3,rfl,rfl,rfl⟩:=h
   cases hF
   refine⟨none,rfl,by simp,fun T hT hx => ?_⟩
   have:=hx id (by simp)
   simp only[aB,ha,ah,Lf this,h3,Option.map_some]
   rfl
  ·rename_i id n off ha
   simp only[ah,ha] at h
   simp only[Option.map_map,Option.map_eq_some_iff,Function.comp_apply,Prod.mk.injEq] at h
   obtain⟨d,h3,rfl,rfl,rfl⟩:=h
   cases hF
   refine⟨none,rfl,by simp,fun T hT hx => ?_⟩
   have:=hx id (by simp)
   simp only[aB,ha,ah,Hy this,h3,Option.map_some]
   rfl
  ·rename_i hno ZK
   simp only[ah] at h
   split at h
   ·rename_i a' ha
    simp only[Option.map_map,Option.map_eq_some_iff,Function.comp_apply,Prod.mk.injEq] at h
    obtain⟨d,h3,rfl,rfl,rfl⟩:=h
    cases hF
    refine⟨none,rfl,by simp,fun T hT hx => ?_⟩
    have hld:iq ty T t a'=some d:=by
     cases a' with
     | ptr id off=>exact absurd ha (hno id off)
     | dM id n off=>exact absurd ha (ZK id n off)
     | cV rows i off=>rw[← h3]; exact HA
     | _=>unfold iq at h3; split at h3<;>simp_all
    cases a' with
    | ptr id off=>exact absurd ha (hno id off)
    | dM id n off=>exact absurd ha (ZK id n off)
    | _=>simp only[aB,ha,ah,hld,Option.map_some]; rfl
   ·cases h
 case lookup t m k ok =>
  simp only[aB] at h
  split at h
  ·rename_i id ha
   simp only[ah,ha] at h
   split at h
   ·rename_i kv hm hk
    cases hm
    split at h
    ·rename_i es hS
     simp only[Option.map_map,Option.map_eq_some_iff,Function.comp_apply,Prod.mk.injEq] at h
     obtain⟨d,h3,rfl,rfl,rfl⟩:=h
     cases hF
     refine⟨none,rfl,by simp,fun T hT hx => ?_⟩
     have:=hx id (by simp)
     simp only[aB,ha,ah,hk,this,hS,h3,Option.map_some]
     rfl
    ·cases h
   ·cases h
  ·cases h
 case mapUpdate t m k a =>
  simp only[aB] at h
  split at h
  ·rename_i id ha
   simp only[ah,ha] at h
   split at h
   ·rename_i gJ kv vv hm hk hv
    cases hm
    split at h
    ·rename_i es hS
     split at h
     ·rename_i r hr
      simp only[Option.map_map,Option.map_eq_some_iff,Function.comp_apply,Prod.mk.injEq] at h
      obtain⟨es',h3,rfl,rfl,rfl⟩:=h
      cases hF
      refine⟨some (id,.map es'),rfl,fun i b hw=>by cases hw; exact⟨by simp,rfl,fE hS⟩,fun T hT hx => ?_⟩
      have:=hx id (by simp)
      simp only[aB,ha,ah,hk,hv,this,hS,hr,h3,Option.map_some]
      rfl
     ·cases h
    ·cases h
   ·cases h
  ·cases h
 case call c =>
  obtain⟨callee,args,ats⟩:=c
  cases callee with
  | invoke r m=>simp[aB,ah] at h
  | value g =>
   simp only[aB] at h
   split at h
   ·rename_i g' fs cs xs hf L8
    split at h
    ·cases h
    rename_i hh
    split at h
    ·rename_i hp
     simp only[Option.map_eq_some_iff,Prod.mk.injEq] at h
     obtain⟨d,h3,rfl,rfl,rfl⟩:=h
     cases hF
     exact⟨none,rfl,by simp,fun T hT hx=>by simp only[aB,hf,L8,if_neg hh,hp,if_true,h3,Option.map_some]; rfl⟩
    ·rename_i hp
     split at h
     ·rename_i i v1 l1 ho
      cases h
      cases hF
      obtain⟨hi,hT⟩:=K7 ho
      exact⟨some (i,.cells l1),rfl,fun _ _ hw=>by cases hw; exact⟨by simp,rfl,hi⟩,fun T _ hx=>by simp only[aB,hf,L8,if_neg hh,if_neg hp,hT T (hx i (by simp))]; rfl⟩
     ·simp only[Option.map_eq_some_iff,Prod.mk.injEq] at h
      obtain⟨r,h3,rfl,rfl,rfl⟩:=h
      cases hF
   ·simp only[Option.map_eq_some_iff,Prod.mk.injEq] at h
    obtain⟨r,h3,rfl,rfl,rfl⟩:=h
    cases hF
   ·cases h
  | builtin b =>
   by_cases hb:b = .append
   ·subst hb
    simp only[aB] at h
    split at h
    ·cases h
    rename_i hh
    split at h
    ·cases h
    rename_i hsl
    have ZH:∀ a da,args.toList[0]? = some a→ρ a=some da→yp (some da)=false:=fun a da h0 h1=>by
     have:args[0]? = some a:=by rw[← Array.getElem?_toList]; exact h0
     rw[this] at hsl
     rw[← h1]
     simpa using hsl
    have hstep:∀ T:ak,ah P ty aC call yf ρ ⟨dst,.call ⟨.builtin .append,args,ats⟩,type,pos,after,guard⟩ T ay=match args.toList,ats.toList with
      | [x,y],[t,u]=>if t=u then match ρ x,ρ y with
        | some a,some b=>gO ty T ay t a b
        | _,_=>none
       else none
      | _,_=>none:=fun T=>by
     simp only[ah]
     generalize args.toList=l at ZH
     generalize ats.toList=m
     match l,m with
     | [x,y],[t,u] =>
      dsimp only
      cases hx:ρ x with
      | none=>rfl
      | some a =>
       cases ρ y with
       | none=>rfl
       | some b =>
        have h0:=ZH x a rfl hx
        cases a<;>first | (simp[yp] at h0; done) | rfl | (dsimp only; split<;>first | exact absurd ‹_› hh | rfl)
     | [],_=>rfl
     | [_],_=>rfl
     | _::_::_::_,_=>rfl
     | [_,_],[]=>rfl
     | [_,_],[_]=>rfl
     | [_,_],_::_::_::_=>rfl
    have main:∀ (r:DV×ak) (F:List Nat),ah P ty aC call yf ρ ⟨dst,.call ⟨.builtin .append,args,ats⟩,type,pos,after,guard⟩ S ay=some r→S[ay]? = some .none→ay∈F→(∀ rw tk fl,(args[0]?).bind ρ=some (.sl rw (some tk) fl)→tk∈F)→(∀ T:ak,T[ay]? = some .none→aB P ty aC call yf ρ ⟨dst,.call ⟨.builtin .append,args,ats⟩,type,pos,after,guard⟩ T ay=(ah P ty aC call yf ρ ⟨dst,.call ⟨.builtin .append,args,ats⟩,type,pos,after,guard⟩ T ay).map (fun r=>(r.1,r.2,(⟨some F,true⟩:cu)))) →
      ∃ w,Eff P ty aC call yf ρ ⟨dst,.call ⟨.builtin .append,args,ats⟩,type,pos,after,guard⟩ S ay r.1 r.2 ⟨some F,true⟩ F w:=by
     intro r F hr hS hnF htk B4
     rw[hstep] at hr
     split at hr
     ·rename_i a b t u iU MD
      split at hr
      ·rename_i Ma
       split at hr
       ·rename_i da db ha kL
        obtain⟨w,w1,w2,w3⟩:=FV (v:=r.1) (S':=r.2) hr (fE hS)
        have As:(args[0]?).bind ρ=some da:=by
         have:args[0]? = some a:=by rw[← Array.getElem?_toList,iU]; rfl
         rw[this]; exact ha
        refine⟨w,w1,fun i c hw => ?_,fun T hT hx => ?_⟩
        ·obtain⟨h1,h2⟩:=w2 i c hw
         rcases h1 with rfl | ⟨YD,tk,fl,rfl,rfl⟩
         ·exact⟨hnF,rfl,h2⟩
         ·exact⟨htk _ _ _ As,rfl,h2⟩
        ·have hl:=hT (List.ne_nil_of_mem hnF)
         have Y9:=(hx ay hnF).trans hS
         have:=w3 T hl fun YD tk fl oF=>hx tk (htk YD tk fl (by rw[As,oF]))
         rw[B4 T Y9,hstep,iU,MD]
         simp only[if_pos Ma,ha,kL,this,Option.map_some]
       ·cases hr
      ·cases hr
     ·cases hr
    split at h
    ·rename_i YD tk fl hS kL
     simp only[Option.map_eq_some_iff,Prod.mk.injEq] at h
     obtain⟨r,h3,rfl,rfl,rfl⟩:=h
     cases hF
     exact main r [tk,ay] h3 hS (by simp) (fun _ _ _ he=>by rw[kL] at he; cases he; simp) fun T hT=>by simp only[aB,if_neg hh,hT,kL,yp,Bool.false_eq_true,if_false]
    ·rename_i hS hno
     simp only[Option.map_eq_some_iff,Prod.mk.injEq] at h
     obtain⟨r,h3,rfl,rfl,rfl⟩:=h
     cases hF
     refine main r [ay] h3 hS (by simp) (fun YD tk fl he=>absurd he (hno YD tk fl)) fun T hT => ?_
     simp only[aB,if_neg hh,if_neg hsl,hT]
    ·cases h
   ·have hop:qm (.call ⟨.builtin b,args,ats⟩):=by cases b<;>first | trivial | exact absurd rfl hb
    have B4:∀ T,aB P ty aC call yf ρ ⟨dst,.call ⟨.builtin b,args,ats⟩,type,pos,after,guard⟩ T ay=(ah P ty aC call yf ρ ⟨dst,.call ⟨.builtin b,args,ats⟩,type,pos,after,guard⟩ T ay).map (fun r=>(r.1,r.2,(⟨some [],false⟩:cu))):=fun T=>by
     cases b<;>first | rfl | exact absurd rfl hb
    rw[B4] at h
    exact plain hop h B4
 all_goals exact plain trivial h fun T=>rfl
end Go.Di
end
