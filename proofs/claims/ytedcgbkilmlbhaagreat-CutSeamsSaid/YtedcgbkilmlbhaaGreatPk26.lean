import Derived.Test.YtedcgbkilmlbhaaGreatPk25
import Derived.Orders
section
namespace Go.Di
open Go Go.Conc Go.Co
open Go.ConcN (sumTo sumTo_upd sumTo_congr le_sumTo upd upd_same upd_ne)
variable {P:Program} {af:Machine→Trace→Prop} {ty:ir} {x:Cx} {aM:bV} {call:bP} {yf:fI}
def Closed (ops:Array Oper) (L:Nat→Bool):Prop:=∀ j o,ops[j]? = some o→L j=true→∀ e∈o.after,Region.binds .any e=true→L e.on=true
theorem u9 {ops:Array Oper} (pP:∀ i o,ops[i]? = some o→∀ e∈o.after,Region.binds .any e=true→e.on<i) {σ:Type} (T:List Nat→σ→Prop) (J:(Nat→Bool)→σ→Prop)
  (hop:∀ L s i o,J L s→Closed ops L→ops[i]? = some o→L i=false→(∀ e∈o.after,Region.binds .any e=true→L e.on=true)→∀ rest,(∀ s',J (upd L i true) s'→T rest s')→T (i::rest) s)
  (sj:∀ L s,J L s→(∀ i,i<ops.size→L i=true)→T [] s) (t:Nat) (s:σ) (h0:J (fun _=>false) s):T (Region.linearise .any ops t) s:=by
 have key:∀ (fuel t:Nat) (listed:Array Bool) (s:σ),listed.size=ops.size→sumTo ops.size (fun j=>if listed.getD j true then 0 else 1)=fuel→J (fun j=>listed.getD j false) s→Closed ops (fun j=>listed.getD j false)→T (Region.linearise.go .any ops fuel t listed []) s:=by
  intro fuel
  induction fuel with
  | zero =>
   intro t listed s hsz JI hJ _
   refine sj _ s hJ fun i hi => ?_
   have h1:=le_sumTo (f:=fun j=>if listed.getD j true then 0 else 1) hi
   rw[JI] at h1
   have h2:listed.getD i true=true:=by
    cases h:listed.getD i true with
    | true=>rfl
    | false=>simp[h] at h1
   simpa [bW (show i<listed.size by omega)] using h2
  | succ fuel ih =>
   intro t listed s hsz JI hJ uw
   simp only[Region.linearise.go]
   change T (match (Region.ready .any ops listed)[t % (Region.ready .any ops listed).length]? with
    | some i=>Region.linearise.go .any ops fuel (t / (Region.ready .any ops listed).length) (listed.setIfInBounds i true) [i]
    | none=>[].reverse) s
   cases hi:(Region.ready .any ops listed)[t % (Region.ready .any ops listed).length]? with
   | none =>
    have JJ:Region.ready .any ops listed=[]:=by
     cases hr:Region.ready .any ops listed with
     | nil=>rfl
     | cons x xs =>
      rw[hr] at hi
      have hlt:t % (x::xs).length<(x::xs).length:=Nat.mod_lt _ (by simp)
      simp at hi
      simp at hlt
      omega
    refine sj _ s hJ fun i hi => ?_
    induction i using Nat.strongRecOn with
    | ind i ihi =>
     have Nh:i<listed.size:=by omega
     cases hb:listed.getD i false with
     | true=>rfl
     | false =>
      have pz:i∈Region.ready .any ops listed:=by
       refine mem_ready.2 ⟨by simpa [bW Nh] using hb,ops[i],bW hi,fun e he hbd => ?_⟩
       have hlt:=pP i _ (bW hi) e he hbd
       exact ihi e.on hlt (by omega)
      rw[JJ] at pz
      cases pz
   | some i =>
    simp only[]
    rw[linearise_go_acc,List.reverse_singleton,List.singleton_append]
    have pz:=dA hi
    obtain⟨hun,o,ho,fA⟩:=mem_ready.1 pz
    have hio:i<ops.size:=(aR.1 ho).1
    have Nh:i<listed.size:=by omega
    have h2:(fun j=>(listed.setIfInBounds i true).getD j false)=upd (fun j=>listed.getD j false) i true:=by
     funext j
     by_cases gO:j=i
     ·subst gO
      rw[upd_same]
      simp[ko Nh]
     ·rw[upd_ne _ _ gO,getD_set_ne false (Ne.symm gO)]
    refine hop _ s i o hJ uw ho (by simpa [bW Nh] using hun) (fun e he hb=>fA e he hb) _ fun s' hJ'=>ih _ _ s' (by simpa using hsz) ?_ (by rw[h2]; exact hJ') ?_
    ·have h1:=sumTo_upd (fun j=>listed.getD j true) true (fun b=>if b then 0 else 1) hio
     rw[hun] at h1
     simp only[if_true,aF,if_false] at h1
     have h2:sumTo ops.size (fun j=>if (listed.setIfInBounds i true).getD j true then 0 else 1)=sumTo ops.size fun j=>if upd (fun j=>listed.getD j true) i true j then 0 else 1:=by
      refine sumTo_congr fun j _ => ?_
      by_cases gO:j=i
      ·subst gO
       rw[upd_same]
       simp[ko Nh]
      ·rw[upd_ne _ _ gO,getD_set_ne true (Ne.symm gO)]
     rw[h2]
     omega
    ·rw[h2]
     intro j o' lP hj e he hb
     by_cases gO:j=i
     ·subst gO
      rw[ho] at lP
      cases lP
      by_cases Ll:e.on=j
      ·rw[Ll,upd_same]
      ·rw[upd_ne _ _ Ll]; exact fA e he hb
     ·rw[upd_ne _ _ gO] at hj
      by_cases Ll:e.on=i
      ·rw[Ll,upd_same]
      ·rw[upd_ne _ _ Ll]; exact uw j o' lP hj e he hb
 refine key ops.size t (Array.replicate ops.size false) s (by simp) ?_ ?_ ?_
 ·have:∀ n,n≤ops.size→sumTo n (fun j=>if (Array.replicate ops.size false).getD j true then 0 else 1)=n:=by
   intro n
   induction n with
   | zero=>intro _; rfl
   | succ n ih =>
    intro hn
    simp only[sumTo]
    rw[ih (by omega)]
    simp[show n<ops.size by omega]
  exact this _ (ak _)
 ·have:(fun j=>(Array.replicate ops.size false).getD j false)=fun _=>false:=by
   funext j
   simp[bg,Array.getElem?_replicate]
   split<;>rfl
  rw[this]
  exact h0
 ·intro j o _ hj
  exfalso
  revert hj
  simp[bg,Array.getElem?_replicate]
  split<;>simp
theorem tn (ops:Array Oper) {L:Nat→Bool} (hL:Closed ops L):∀ j i,((Region.before ops).getD j 0).testBit i=true→L j=true→L i=true:=by
 have key:∀ (l pre:List Oper) (acc:Array Nat),ops.toList=pre++l→acc.size=pre.length→(∀ j i,(acc.getD j 0).testBit i=true→L j=true→L i=true) →
   ∀ j i,((l.foldl (fun acc (o:Oper)=>acc.push (o.after.foldl (fun s e=>if Region.binds .any e then s ||| 2 ^ e.on ||| acc.getD e.on 0 else s) 0)) acc).getD j 0).testBit i=true→L j=true→L i=true:=by
  intro l
  induction l with
  | nil=>intro pre acc _ _ h; exact h
  | cons o l ih =>
   intro pre acc Ff hsz h
   simp only[List.foldl_cons]
   refine ih (pre++[o]) _ (by rw[Ff]; simp) (by simp[hsz]) fun j i ht hj => ?_
   have ho:ops[pre.length]? = some o:=by rw[← gE,Ff]; simp
   by_cases hjs:j<acc.size
   ·refine h j i ?_ hj
    rw[bg,Array.getElem?_push_lt hjs] at ht
    rw[bg,bW hjs]
    exact ht
   ·by_cases hje:j=acc.size
    ·subst hje
     rw[bg,Array.getElem?_push_size,Option.getD_some] at ht
     rw[hsz] at hj
     have fA:=hL _ _ ho hj
     have fold:∀ (es:List Edge) (s:Nat),(∀ e∈es,e∈o.after)→(s.testBit i=true→L i=true)→(es.foldl (fun s e=>if Region.binds .any e then s ||| 2 ^ e.on ||| acc.getD e.on 0 else s) s).testBit i=true→L i=true:=by
      intro es
      induction es with
      | nil=>intro s _ hs ht; exact hs ht
      | cons e es ihe =>
       intro s he hs ht
       simp only[List.foldl_cons] at ht
       refine ihe _ (fun e' h'=>he e' (by simp[h'])) (fun hb => ?_) ht
       split at hb
       ·rename_i hbd
        simp only[Nat.testBit_or,iZ,Nat.testBit_two_pow,bJ] at hb
        rcases hb with (hb | hb) | hb
        ·exact hs hb
        ·rw[← hb]; exact fA e (he e (by simp)) hbd
        ·exact h _ _ hb (fA e (he e (by simp)) hbd)
       ·exact hs hb
     rw[← Array.foldl_toList] at ht
     exact fold o.after.toList 0 (by simp) (by simp) ht
    ·rw[bg,lp (by simp; omega)] at ht
     simp at ht
 intro j i
 unfold Region.before
 rw[← Array.foldl_toList]
 exact key ops.toList [] #[] rfl rfl (by simp) j i
theorem mb {ρ ρ':Operand→Option DV}:∀ {l:List Operand},(∀ a∈l,ρ a=ρ' a)→evs ρ l=evs ρ' l
 | [],_=>rfl
 | a::l,h=>by
  unfold evs
  rw[h a (by simp),mb fun b hb=>h b (by simp[hb])]
theorem s7 {ρ ρ':Operand→Option DV}:∀ {l:List (Nat×Operand)},(∀ a∈l.map (·.2),ρ a=ρ' a)→j7 ρ l=j7 ρ' l
 | [],_=>rfl
 | (i,a)::l,h=>by
  unfold j7
  rw[h a (by simp),s7 fun b hb=>h b (by simp at hb ⊢; exact .inr hb)]
theorem tj {ρ ρ':Operand→Option DV} {a:Option Operand} {d m:Nat} (h:∀ b∈a.toArray,ρ b=ρ' b):ic ρ a d m=ic ρ' a d m:=by
 cases a with
 | none=>rfl
 | some b=>simp only[ic,intOf,h b (by simp)]
theorem xL {ρ ρ':Operand→Option DV} {o:Oper} {S:ax} {aH:Nat} (h:∀ a∈o.op.operands,ρ a=ρ' a):ah P ty aM call yf ρ o S aH=ah P ty aM call yf ρ' o S aH:=by
 obtain⟨dst,op,type,pos,after,guard⟩:=o
 cases op<;>simp only[Op.operands,Call.operands] at h<;>try rfl
 case move a=>simp only[ah,h a (by simp)]
 case assign a=>simp only[ah,h a (by simp)]
 case pick a b c=>simp only[ah,h a (by simp),h b (by simp),h c (by simp)]
 case box t a=>simp only[ah,h a (by simp)]
 case build t ps =>
  have:=s7 (ρ:=ρ) (ρ':=ρ') (l:=ps.toList) fun a ha=>h a (by simpa using ha)
  simp only[ah,this]
 case buildSlice t n ps =>
  have:=s7 (ρ:=ρ) (ρ':=ρ') (l:=ps.toList) fun a ha=>h a (by simpa using ha)
  simp only[ah,this]
 case makeSlice t a b=>simp only[ah,intOf,h a (by simp),h b (by simp)]
 case load t a=>simp only[ah,h a (by simp)]
 case store t a v=>simp only[ah,h a (by simp),h v (by simp)]
 case nilCheck a=>simp only[ah,h a (by simp)]
 case binOp op t a b u=>simp only[ah,valOf,h a (by simp),h b (by simp)]
 case unOp op t a=>simp only[ah,valOf,h a (by simp)]
 case convert s d a=>simp only[ah,valOf,h a (by simp)]
 case makeFunc fn fs cs =>
  cases fn with
  | func f=>simp only[ah,mb (ρ:=ρ) (ρ':=ρ') (l:=fs.toList) fun a ha=>h a (by simp at ha ⊢; exact .inl ha),mb (ρ:=ρ) (ρ':=ρ') (l:=cs.toList) fun a ha=>h a (by simp at ha ⊢; exact .inr ha)]
  | _=>rfl
 case makeMap t r=>cases r<;>rfl
 case slice t a lo hi mx =>
  have h1:ρ a=ρ' a:=h a (by simp)
  have h2:=fun d m=>tj (ρ:=ρ) (ρ':=ρ') (a:=lo) (d:=d) (m:=m) fun b hb=>h b (by simp at hb ⊢; simp[hb])
  have h3:=fun d m=>tj (ρ:=ρ) (ρ':=ρ') (a:=hi) (d:=d) (m:=m) fun b hb=>h b (by simp at hb ⊢; simp[hb])
  have h4:=fun d m=>tj (ρ:=ρ) (ρ':=ρ') (a:=mx) (d:=d) (m:=m) fun b hb=>h b (by simp at hb ⊢; simp[hb])
  simp only[ah,h1,h2,h3,h4]
 case fieldAddr t a f=>simp only[ah,h a (by simp)]
 case field t a f=>simp only[ah,h a (by simp)]
 case indexAddr t a i=>simp only[ah,intOf,h a (by simp),h i (by simp)]
 case index t a i=>simp only[ah,intOf,h a (by simp),h i (by simp)]
 case lookup t a i ok=>simp only[ah,valOf,h a (by simp),h i (by simp)]
 case mapUpdate t m k v=>simp only[ah,valOf,h m (by simp),h k (by simp),h v (by simp)]
 case extract a i=>simp only[ah,h a (by simp)]
 case call c =>
  obtain⟨callee,args,ats⟩:=c
  cases callee with
  | builtin b =>
   simp only[Array.empty_append] at h
   have h1:∀ a∈args.toList,ρ a=ρ' a:=fun a ha=>h a (by simpa using ha)
   have h2:=mb h1
   simp only[ah]
   generalize args.toList=l at h1 h2
   generalize ats.toList=m
   cases b<;>try rfl
   ·match l,m with
    | [a,c],[t,u]=>simp only[h1 a (by simp),h1 c (by simp)]
    | [],_=>rfl
    | [_],_=>rfl
    | _::_::_::_,_=>rfl
    | [_,_],[]=>rfl
    | [_,_],[_]=>rfl
    | [_,_],_::_::_::_=>rfl
   ·match l,m with
    | [a],[t]=>simp only[h1 a (by simp)]
    | [],_=>rfl
    | _::_::_,_=>rfl
    | [_],[]=>rfl
    | [_],_::_::_=>rfl
   ·simp only[h2]
   ·simp only[h2]
  | value f =>
   have h1:ρ f=ρ' f:=h f (by simp)
   have h2:=mb (ρ:=ρ) (ρ':=ρ') (l:=args.toList) fun a ha=>h a (by simp at ha ⊢; exact .inr ha)
   simp only[ah,h1,h2]
  | invoke r m=>rfl
end Go.Di
end
section
namespace Go.Di
open Go Go.Conc Go.Co
open Go.ConcN (sumTo sumTo_upd sumTo_congr le_sumTo upd upd_same upd_ne)
variable {P:Program} {af:Machine→Trace→Prop} {ty:ir} {x:Cx} {aM:bV} {call:bP} {yf:fI}
def HF (ops:Array Oper):Prop:=∀ i o,ops[i]? = some o→∀ e∈o.after,Region.binds .any e=true→e.on<i
theorem EO {ops:Array Oper} (pP:HF ops) {i j:Nat} (hne:i≠j) (h:((Region.before ops).getD j 0).testBit i=true):i<j:=by
  have uw:Closed ops fun k=>decide (k≤j):=by
    intro k o ho hk e he hb
    have:=pP k o ho e he hb
    simp only[bJ] at hk ⊢
    omega
  have:=tn ops uw j i h (by simp)
  simp only[bJ] at this
  omega
theorem Mv {ops:Array Oper} (pP:HF ops) {L:Nat→Bool} (hL:Closed ops L) {i j:Nat} {o:Oper} (ho:ops[i]? = some o) (hi:L i=false) (wF:∀ e∈o.after,Region.binds .any e=true→L e.on=true) (hne:i≠j)
    (h:((Region.before ops).getD j 0).testBit i=true∨((Region.before ops).getD i 0).testBit j=true):L j=true↔j<i:=by
  rcases h with h | h
  · have h1:=EO pP hne h
    refine⟨fun hj => ?_,fun hj=>by omega⟩
    have:=tn ops hL j i h hj
    rw[hi] at this
    cases this
  · have h1:=EO pP (Ne.symm hne) h
    refine⟨fun _=>h1,fun _ => ?_⟩
    have uw:Closed ops (upd L i true):=by
      intro k o' lP hk e he hb
      by_cases Pg:k=i
      · subst Pg
        rw[ho] at lP
        cases lP
        by_cases Ll:e.on=k
        · rw[Ll,upd_same]
        · rw[upd_ne _ _ Ll]; exact wF e he hb
      · rw[upd_ne _ _ Pg] at hk
        by_cases Ll:e.on=i
        · rw[Ll,upd_same]
        · rw[upd_ne _ _ Ll]; exact hL k o' lP hk e he hb
    have:=tn ops uw i j h (upd_same _ _ _)
    rwa [upd_ne _ _ (Ne.symm hne)] at this
def oM (ops:Array Oper) (j:Nat) (t:Tmp):Bool:=match ops[j]? with
  | some o=>o.dst==some t
  | none=>false
def mI (ops:Array Oper) (V:Nat→DV) (L:Nat→Bool) (t:Tmp):Nat→Option DV
  | 0=>none
  | n+1=>if L n&&oM ops n t then some (V n) else mI ops V L t n
theorem kN {ops:Array Oper} {V:Nat→DV} {L:Nat→Bool} {t:Tmp} {i:Nat}:∀ {n:Nat},i≤n→(∀ j,j<n→oM ops j t=true→(L j=true↔j<i))→mI ops V L t n=mI ops V (fun _=>true) t i
  | 0,h,_=>by
    have:i=0:=by omega
    subst this; rfl
  | n+1,h,hj=>by
    by_cases oI:i=n+1
    · subst oI
      unfold mI
      by_cases hd:oM ops n t=true
      · have:=(hj n (by omega) hd).2 (by omega)
        simp only[this,hd,gA,if_true]
      · simp only[aI,hd,and_false,if_false,aF]
        exact kN (ak _) fun j h1 h2=>⟨fun _=>h1,fun _=>(hj j (oW h1) h2).2 (oW h1)⟩
    · have hle:i≤n:=by omega
      rw[← kN hle fun j h1 h2=>hj j (by omega) h2]
      conv=>lhs; unfold mI
      by_cases hd:oM ops n t=true
      · have:L n=false:=by
          cases hLn:L n with
          | false=>rfl
          | true=>have:=(hj n (by omega) hd).1 hLn; omega
        rw[this]
        simp
      · simp[hd]
theorem zX {ops:Array Oper} {V:Nat→DV} {L:Nat→Bool} {t:Tmp} {i:Nat} (hd:oM ops i t=false):∀ n,mI ops V (upd L i true) t n=mI ops V L t n
  | 0=>rfl
  | n+1=>by
    unfold mI
    rw[zX hd n]
    by_cases h:n=i
    · subst h; simp[hd]
    · rw[upd_ne _ _ h]
def D6 (ops:Array Oper) (V:Nat→DV) (L:Nat→Bool) (n:Nat) (afi env:List DV):Prop:=∀ t,env[t]? = (afi[t]?).map fun d=>(mI ops V L t n).getD d
theorem Ib (env:List DV) (dst:Option Tmp) (v:DV) (t:Tmp):(gV env dst v)[t]? = if dst=some t then (env[t]?).map fun _=>v else env[t]? := by
  cases dst with
  | none=>simp[gV]
  | some d =>
    simp only[gV,aQ,aB]
    by_cases h:d=t
    · subst h
      by_cases hl:d<env.length
      · simp[hl]
      · simp[hl]
    · simp[h]
def LV (ops:Array Oper) (V:Nat→DV) (E:Nat→List DV):Prop:=∀ j o,ops[j]? = some o→E (j+1)=gV (E j) o.dst (V j)
theorem AG {ops:Array Oper} {V:Nat→DV} {E:Nat→List DV} (h:LV ops V E):∀ i,i≤ops.size→D6 ops V (fun _=>true) i (E 0) (E i)
  | 0,_=>fun t=>by simp[mI]
  | i+1,hi=>fun t=>by
    have ho:ops[i]? = some ops[i]:=bW (by omega)
    have ih:=AG h i (by omega) t
    rw[h i _ ho,Ib]
    unfold mI
    have hd:oM ops i t=(ops[i].dst==some t):=by unfold oM; rw[ho]
    by_cases UU:ops[i].dst=some t
    · simp only[UU,if_true,hd,beq_self_eq_true,gA,Option.getD_some,ih,Option.map_map]
      rfl
    · have:(ops[i].dst==some t)=false:=by simpa using UU
      simp only[UU,if_false,hd,this,kY,aF]
      exact ih
theorem EI {ops:Array Oper} {V:Nat→DV} {E:Nat→List DV} {L:Nat→Bool} {env:List DV} {i:Nat} {o:Oper} (ho:ops[i]? = some o) (hE:D6 ops V L ops.size (E 0) env)
    (adp:∀ t,o.dst=some t→∀ j,j<ops.size→oM ops j t=true→(upd L i true j=true↔j<i+1)):D6 ops V (upd L i true) ops.size (E 0) (gV env o.dst (V i)):=by
  intro t
  have hi:i<ops.size:=(aR.1 ho).1
  rw[Ib]
  have hd:oM ops i t=(o.dst==some t):=by unfold oM; rw[ho]
  by_cases UU:o.dst=some t
  · have e:mI ops V (fun _=>true) t (i+1)=some (V i):=by unfold mI; simp[hd,UU]
    rw[if_pos UU,kN (i:=i+1) (by omega) (adp t UU),hE t,e]
    simp[Function.comp_def]
  · have h2:oM ops i t=false:=by rw[hd]; simpa using UU
    rw[if_neg UU,zX h2]
    exact hE t
theorem zT {ops:Array Oper} (pP:HF ops) (EX:kV ops (Region.before ops)=true) {V:Nat→DV} {E:Nat→List DV} (hS:LV ops V E) {L:Nat→Bool} (hL:Closed ops L) {env:List DV} (hE:D6 ops V L ops.size (E 0) env) {i:Nat} {o:Oper} (ho:ops[i]? = some o) (hi:L i=false)
    (wF:∀ e∈o.after,Region.binds .any e=true→L e.on=true):(∀ t∈kW ops o,env[t]? = (E i)[t]?)∧∀ t,o.dst=some t→∀ j,j<ops.size→oM ops j t=true→(upd L i true j=true↔j<i+1):=by
  have hio:i<ops.size:=(aR.1 ho).1
  have hx:∀ t∈kW ops o,∀ j,j<ops.size→j≠i→oM ops j t=true→(L j=true↔j<i):=by
    intro t ht j hj hne hd
    have hoj:ops[j]? = some ops[j]:=bW hj
    have Ph:ops[j].dst=some t:=by unfold oM at hd; rw[hoj] at hd; simpa using hd
    refine Mv pP hL ho hi wF (Ne.symm hne) ?_
    unfold kV at EX
    simp only[aI,bt] at EX
    have h1:=EX.2 (o,i) (by rw[tP]; simpa using ho) (ops[j],j) (by rw[tP]; simp)
    simp only[Ph] at h1
    have hc:(kW ops o).contains t=true:=by simpa using ht
    simp only[hc,gl,Bool.or_false,iZ,ek] at h1
    rcases h1 with (h1 | h1) | h1
    · exact absurd h1.symm hne
    · exact .inl h1
    · exact .inr h1
  constructor
  · intro t ht
    rw[hE t,AG hS i (by omega) t]
    congr 1
    funext d
    rw[kN (i:=i) (by omega) fun j hj hd => ?_]
    by_cases gO:j=i
    · subst gO; simp[hi]
    · exact hx t ht j hj gO hd
  · intro t ht j hj hd
    by_cases gO:j=i
    · subst gO; simp[upd_same]
    · rw[upd_ne _ _ gO,hx t (by simp[kW,ht]) j hj gO hd]
      omega
theorem EG {ops:Array Oper} {o:Oper} {env aD:List DV} (h:∀ t∈kW ops o,env[t]? = aD[t]?):∀ a∈o.op.operands,jb env a=jb aD a:=by
  intro a ha
  cases a with
  | tmp t =>
    have:t∈kW ops o:=by
      unfold kW
      simp only[ja]
      left; right
      rw[List.mem_filterMap]
      exact⟨.tmp t,by simpa using ha,rfl⟩
    simp only[jb,aN,h t this]
  | _=>rfl
theorem xG {ops:Array Oper} {o:Oper} {env aD:List DV} (h:∀ t∈kW ops o,env[t]? = aD[t]?):cu ops env o=cu ops aD o:=by
  unfold cu
  cases hg:o.guard with
  | none=>rfl
  | some g =>
    obtain⟨j,want⟩:=g
    simp only
    cases hb:(ops[j]?).bind (·.dst) with
    | none=>rfl
    | some t =>
      have:t∈kW ops o:=by
        unfold kW
        rw[hg]
        simp[hb]
      simp only[h t this]
theorem Ig {ops:Array Oper} (h:kV ops (Region.before ops)=true):HF ops:=by
  intro i o ho e he hb
  unfold kV at h
  simp only[aI,bt,Array.all_eq_true'] at h
  have h1:=h.1 (o,i) (by rw[tP]; simpa using ho) e he
  simpa [hb] using h1
theorem HZ {ops:Array Oper} {S:ax}:∀ {r:List Oper} {env aD:List DV},pn P ty aM call yf ops S r env=some aD→∃ (E:Nat→List DV) (V:Nat→DV),E 0=env∧E r.length=aD ∧
    ∀ j o,r[j]? = some o→E (j+1)=gV (E j) o.dst (V j)∧(cu ops (E j) o=true→dc P ty aM call yf (jb (E j)) o S=some (V j))∧(cu ops (E j) o=false→V j=bh)
  | [],env,aD,h=>by
    simp only[pn,aB] at h
    exact⟨fun _=>env,fun _=>bh,rfl,h,by simp⟩
  | o::r,env,aD,h=>by
    unfold pn at h
    have key:∀ v,pn P ty aM call yf ops S r (gV env o.dst v)=some aD→(cu ops env o=true→dc P ty aM call yf (jb env) o S=some v)→(cu ops env o=false→v=bh)→∃ (E:Nat→List DV) (V:Nat→DV),E 0=env∧E (o::r).length=aD ∧
        ∀ j o',(o::r)[j]? = some o'→E (j+1)=gV (E j) o'.dst (V j)∧(cu ops (E j) o'=true→dc P ty aM call yf (jb (E j)) o' S=some (V j))∧(cu ops (E j) o'=false→V j=bh):=fun v h1 h2 h3=>by
      obtain⟨E,V,e1,e2,e3⟩:=HZ h1
      refine⟨fun n=>match n with | 0=>env | n+1=>E n,fun n=>match n with | 0=>v | n+1=>V n,rfl,by simpa using e2,fun j o' lP => ?_⟩
      cases j with
      | zero =>
        simp only[List.getElem?_cons_zero,aB] at lP
        subst lP
        exact⟨e1,h2,h3⟩
      | succ j=>exact e3 j o' (by simpa using lP)
    split at h
    · rename_i hw
      split at h
      · rename_i v h1
        exact key v h (fun _=>h1) fun hf=>by rw[hw] at hf; cases hf
      · cases h
    · rename_i hw
      exact key bh h (fun ht=>absurd ht hw) fun _=>rfl
theorem quiet_step {ρ:Operand→Option DV} {o:Oper} {S:ax} {v:DV} (h:dc P ty aM call yf ρ o S=some v):ah P ty aM call yf ρ o S S.length=some (v,S):=by
  obtain⟨dst,op,type,pos,after,guard⟩:=o
  have gen:∀ {q:Option (DV×ax)},q.map (·.1)=some v→(∀ d S',q=some (d,S')→S'=S)→q=some (v,S):=by
    intro q hq hs
    simp only[ai] at hq
    obtain⟨⟨d,S'⟩,h1,rfl⟩:=hq
    rw[h1,hs d S' h1]
  have mp:∀ {β:Type} {q:Option β} {f:β→DV} {d:DV} {S':ax},q.map (fun c=>(f c,S))=some (d,S')→S'=S:=by
    intro β q f d S' hq
    simp only[ai,ay] at hq
    obtain⟨_,_,_,h⟩:=hq
    exact h.symm
  cases op<;>simp only[dc] at h
  case call c =>
    obtain⟨callee,args,ats⟩:=c
    cases callee with
    | builtin b =>
      cases b<;>simp only at h<;>first | cases h | skip
      all_goals
        refine gen h fun d S' hq => ?_
        simp only[ah] at hq
        repeat' split at hq
        all_goals first | contradiction | exact mp (f:=id) hq | exact mp hq | (cases hq; rfl) | (cases hq; done) | skip
    | value f =>
      simp only at h
      split at h
      · rename_i g fs cs xs hf Py
        split at h
        · cases h
        rename_i hh
        split at h
        · rename_i hp
          simp only[ah,hf,Py,wR,hp,if_true,h]
        · cases h
      · cases h
    | invoke r m=>simp[ah] at h
  case buildSlice t n ps =>
    split at h
    · cases h
    · rename_i hh
      refine gen h fun d S' hq => ?_
      simp only[ah] at hq
      repeat' split at hq
      all_goals first | contradiction | (cases hq; first | rfl | contradiction)
  all_goals first
    | cases h
    | (refine gen h fun d S' hq => ?_
       simp only[ah] at hq
       repeat' split at hq
       all_goals first | contradiction | exact mp (f:=id) hq | exact mp hq | (cases hq; rfl) | (cases hq; done) | skip)
theorem I6 {ρ ρ':Operand→Option DV} {o:Oper} {S:ax} (h:∀ a∈o.op.operands,ρ a=ρ' a):dc P ty aM call yf ρ o S=dc P ty aM call yf ρ' o S:=by
  have hs:=xL (P:=P) (ty:=ty) (aM:=aM) (call:=call) (yf:=yf) (S:=S) (aH:=S.length) h
  unfold dc
  split<;>try rfl
  · rw[hs]
  · rename_i f args ats hop
    rw[hop] at h
    have h1:ρ f=ρ' f:=h f (by simp[Op.operands,Call.operands])
    have h2:=mb (ρ:=ρ) (ρ':=ρ') (l:=args.toList) fun a ha=>h a (by simp[Op.operands,Call.operands] at ha ⊢; exact .inr ha)
    rw[h1,h2]
  · rw[hs]
theorem KD (hP:Plain P) (eY:j4 P ty) (hc:jr P af call) (hi:wW P af aM) (Js:wT P af yf) {ops:Array Oper} {b:Frame} {k:List Item} {cs:List Frame} (hk:b.kind ≠ .early) (EX:kV ops (Region.before ops)=true)
    {env aD:List DV} {a:Act} (h:pn P ty aM call yf ops x.S ops.toList env=some aD) (hR:Rel x) (he:gn x env a.tmps)
    (hn:∀ y a',y.S=x.S→Rel y→bZ x y→gn y aD a'.tmps→a'.defers=a.defers→iz P af () (G (b.atR a' k) cs) y.w) (t:Nat):iz P af () (G (b.atR a (.inRegion ops (Region.linearise .any ops t)::k)) cs) x.w:=by
  have pP:=Ig EX
  obtain⟨E,V,e1,e2,e3⟩:=HZ h
  have Ff:∀ (j:Nat) (o:Oper),ops[j]? = some o→ops.toList[j]? = some o:=fun j o ho=>by simpa using ho
  have hS:LV ops V E:=fun j o ho=>(e3 j o (Ff j o ho)).1
  refine u9 pP (σ:=Act×Cx) (fun todo s=>s.2.S=x.S→Rel s.2→bZ x s.2→s.1.defers=a.defers→iz P af () (G (b.atR s.1 (.inRegion ops todo::k)) cs) s.2.w)
    (fun L s=>∃ mH,gn s.2 mH s.1.tmps∧D6 ops V L ops.size (E 0) mH) ?_ ?_ t (a,x) ⟨env,he,fun t => ?_⟩ rfl hR (bZ.refl x) rfl
  · rintro L ⟨a1,y⟩ i o ⟨mH,xX,UZ⟩ uw ho hLi wF rest Bs hSy Jz PL Jx
    simp only at xX hSy Jz PL Jx ⊢
    obtain⟨q1,q2⟩:=zT pP EX hS uw UZ ho hLi wF
    have hw:=xG q1
    have Um:=yy xX ops o
    have hE2:=EI (V:=V) ho UZ q2
    by_cases YV:cu ops (E i) o=true
    · have hq:=(e3 i o (Ff i o ho)).2.1 YV
      rw[← I6 (EG q1),← hSy] at hq
      refine Hh hP eY hc hi Js hk ho (by rw[Um,hw]; exact YV) Jz (.inl rfl) xX (quiet_step hq) fun z u zS zR zM zV => ?_
      have nW:=qE (xX.mono zM) (dst:=o.dst) zV
      exact Bs (a1.put o.dst u,z) ⟨_,nW.1,hE2⟩ (zS.trans hSy) zR (PL.trans zM) (nW.2.trans Jx)
    · have YW:cu ops (E i) o=false:=by simpa using YV
      have hv:=(e3 i o (Ff i o ho)).2.2 YW
      have nW:=qE xX (dst:=o.dst) (d:=V i) (v:=undef) (by rw[hv]; exact .val rfl)
      exact dY hP (fun w=>⟨_,s6 ho (by rw[Um,hw]; exact YW)⟩) (Bs (a1.put o.dst undef,y) ⟨_,nW.1,hE2⟩ hSy Jz PL (nW.2.trans Jx))
  · rintro L ⟨a1,y⟩ ⟨mH,xX,UZ⟩ fA hSy Jz PL Jx
    have:mH=aD:=by
      refine kZ fun t => ?_
      have hlen:E ops.size=aD:=by simpa using e2
      rw[UZ t,← hlen,AG hS ops.size (ak _) t]
      congr 1
      funext d
      rw[kN (i:=ops.size) (ak _) fun j hj _=>by simp[fA j hj,hj]]
    subst this
    exact dY hP (fun w=>⟨_,mD⟩) (hn y a1 hSy Jz PL xX Jx)
  · rw[e1]
    have:∀ n,mI ops V (fun _=>false) t n=none:=by
      intro n
      induction n with
      | zero=>rfl
      | succ n ih=>unfold mI; simp[ih]
    rw[this]
    simp
end Go.Di
end
section
namespace Go.Di
open Go Go.Conc Go.Co
open Go.ConcN (upd upd_same upd_ne)
variable {P:Program} {af:Machine→Trace→Prop} {ty:ir} {x:Cx} {aM:bV} {call:bP} {yf:fI}
def appW (w:Option (Nat×DB)) (S:ax):ax:=match w with
 | none=>S
 | some (i,b)=>S.set i b
theorem oO {S:ax} {i:Nat} (h:i<S.length) (b:DB):eV S i b=S.set i b:=by unfold eV; rw[if_pos h]
theorem iI {S:ax} {i:Nat} {b:DB} (h:S[i]? = some b):i<S.length:=(aJ.1 h).1
def tQ:Op→Prop
 | .alloc _ | .box .. | .makeMap .. | .load .. | .store .. | .lookup .. | .mapUpdate .. | .makeSlice .. | .buildSlice .. | .fieldAddr .. | .indexAddr .. => False
 | .call { callee := .builtin .append,.. }=>False
 | .call { callee := .builtin _,.. }=>True
 | .call _=>False
 | _=>True
theorem map_fst {β:Type} (q:Option β) (f:β→DV) (S T:ax):q.map (fun c=>(f c,S))=((q.map (fun c=>(f c,T))).map (·.1)).map (·,S):=by cases q<;>rfl
theorem CF {ρ:Operand→Option DV} {o:Oper} (hop:tQ o.op) (S:ax) (aH:Nat):ah P ty aM call yf ρ o S aH=((ah P ty aM call yf ρ o [] 0).map (·.1)).map (·,S):=by
 obtain⟨dst,op,type,pos,after,guard⟩:=o
 cases op<;>simp only[tQ] at hop
 case call c =>
  obtain⟨callee,args,ats⟩:=c
  cases callee with
  | builtin b =>
   simp only[ah]
   generalize args.toList=l
   generalize ats.toList=m
   split
   ·split<;>first | rfl | exact map_fst (f:=id) _ S []
   ·exact hop.elim
   ·split<;>first | rfl | exact map_fst (f:=id) _ S []
   ·split<;>first | rfl | exact map_fst (f:=id) _ S []
   ·rfl
  | value f=>exact hop.elim
  | invoke r m=>exact hop.elim
 case makeFunc fn fs cs=>cases fn<;>simp only[ah]<;>(repeat' split)<;>rfl
 all_goals simp only[ah]
 all_goals (repeat' split)
 all_goals first
  | rfl
  | exact map_fst (f:=id) _ S []
  | exact map_fst _ _ S []
theorem B3 {ρ:Operand→Option DV} {o:Oper} (hop:tQ o.op) {S S':ax} {aH:Nat} {v:DV} (h:ah P ty aM call yf ρ o S aH=some (v,S')):S'=S∧∀ T uC,ah P ty aM call yf ρ o T uC=some (v,T):=by
 rw[CF hop] at h
 simp only[ai,ay] at h
 obtain⟨d,h1,h2,h3⟩:=h
 refine⟨h3.symm,fun T uC => ?_⟩
 rw[CF hop]
 simp only[ai,ay]
 exact⟨d,h1,h2,trivial⟩
structure Eff (P:Program) (ty:ir) (aM:bV) (call:bP) (yf:fI) (ρ:Operand→Option DV) (o:Oper) (S:ax) (aH:Nat) (v:DV) (S':ax) (f:dD) (F:List Nat) (w:Option (Nat×DB)):Prop where
 res:S'=appW w S
 Fg:∀ i b,w=some (i,b)→i∈F∧f.wr=true∧i<S.length
 loc:∀ T,(F≠[]→T.length=S.length)→(∀ x∈F,T[x]? = S[x]?)→aL P ty aM call yf ρ o T aH=some (v,appW w T,f)
theorem OI {S T:ax} {t:TypeId} {id off:Nat} (h:T[id]? = S[id]?):kg ty T t (.ptr id off)=kg ty S t (.ptr id off):=by
 unfold kg
 cases ty t with
 | none=>rfl
 | some d=>simp only[h]
theorem KS {S T:ax} {t:TypeId} {rows:List DV} {i off:Nat}:kg ty T t (.eL rows i off)=kg ty S t (.eL rows i off):=by unfold kg; cases ty t<;>rfl
theorem Ft {S T:ax} {id n:Nat} (h:T[id]? = S[id]?):Da T id n=Da S id n:=by unfold Da; rw[h]
theorem KR {S T:ax} {t:TypeId} {id n off:Nat} (h:T[id]? = S[id]?):kg ty T t (.fC id n off)=kg ty S t (.fC id n off):=by
 unfold kg
 cases ty t with
 | none=>rfl
 | some d=>simp only[Ft h]
theorem qq {ρ:Operand→Option DV} {dst:Option Tmp} {t type:TypeId} {a:Operand} {f:Nat} {pos:String} {after:Array Edge} {guard:Option (Nat×Bool)} {S S' T:ax} {aH:Nat} {v:DV} (hT:∀ id n off,ρ a=some (.fC id n off)→T[id]? = S[id]?)
  (h:ah P ty aM call yf ρ ⟨dst,.fieldAddr t a f,type,pos,after,guard⟩ S aH=some (v,S')):S'=S∧∀ uC,ah P ty aM call yf ρ ⟨dst,.fieldAddr t a f,type,pos,after,guard⟩ T uC=some (v,T):=by
 simp only[ah] at h ⊢
 split at h
 ·rename_i hk ha
  split at h
  ·rename_i hf
   split at h
   ·rename_i hs
    cases h
    exact⟨rfl,fun _=>by simp only[hk,ha,hf,if_pos hs]⟩
   ·cases h
  ·cases h
 ·rename_i hk ha
  split at h
  ·rename_i hf
   split at h
   ·rename_i hs
    cases h
    exact⟨rfl,fun _=>by simp only[hk,ha,hf,if_pos hs]⟩
   ·cases h
  ·cases h
 ·rename_i hk ha
  split at h
  ·rename_i hf hop
   split at h
   ·rename_i hs
    cases h
    exact⟨rfl,fun _=>by simp only[hk,ha,hf,Ft (hT _ _ _ ha),hop,if_pos hs]⟩
   ·cases h
  ·cases h
 ·cases h
theorem qo {ρ:Operand→Option DV} {dst:Option Tmp} {t type:TypeId} {a i:Operand} {pos:String} {after:Array Edge} {guard:Option (Nat×Bool)} {S S' T:ax} {aH:Nat} {v:DV} (hT:∀ id n ag,ρ a=some (.jD id n ag)→T[id]? = S[id]?)
  (h:ah P ty aM call yf ρ ⟨dst,.indexAddr t a i,type,pos,after,guard⟩ S aH=some (v,S')):S'=S∧∀ uC,ah P ty aM call yf ρ ⟨dst,.indexAddr t a i,type,pos,after,guard⟩ T uC=some (v,T):=by
 simp only[ah] at h ⊢
 split at h
 ·rename_i hk ha hi
  split at h
  ·rename_i h0
   split at h
   ·rename_i r hr
    split at h
    ·rename_i hs
     cases h
     exact⟨rfl,fun _=>by simp only[hk,ha,hi,if_pos h0,hr,if_pos hs]⟩
    ·cases h
   ·cases h
  ·cases h
 ·rename_i hk ha hi
  split at h
  ·rename_i h0
   cases h
   exact⟨rfl,fun _=>by simp only[hk,ha,hi,if_pos h0]⟩
  ·cases h
 ·rename_i hk ha hi
  split at h
  ·rename_i h0
   cases h
   exact⟨rfl,fun _=>by simp only[hk,ha,hi,if_pos h0]⟩
  ·cases h
 ·rename_i hk ha hi
  split at h
  ·rename_i hop
   split at h
   ·rename_i h0
    cases h
    exact⟨rfl,fun _=>by simp only[hk,ha,hi,Ft (hT _ _ _ ha),hop,if_pos h0]⟩
   ·cases h
  ·cases h
 ·cases h
theorem EN {ρ:Operand→Option DV} {o:Oper} {t:TypeId} {n:Nat} {ps:Array (Nat×Operand)} {S S':ax} {aH:Nat} {v:DV} (ho:o.op = .buildSlice t n ps) (hh:ty.h o≠1)
  (h:ah P ty aM call yf ρ o S aH=some (v,S')):S'=S∧∀ (T:ax) (uC:Nat),ah P ty aM call yf ρ o T uC=some (v,T):=by
 simp only[ah,ho] at h ⊢
 split at h
 ·rename_i hk hl
  split at h
  ·rename_i he
   split at h
   ·rename_i hc
    split at h
    ·rename_i hf
     split at h
     ·rename_i hp
      cases h
      exact⟨rfl,fun T uC=>by simp only[if_pos hc,if_pos hp]⟩
     ·cases h
    ·cases h
   ·cases h
  ·cases h
 ·cases h
theorem Jg {S S':ax} {aH:Nat} {t:TypeId} {a b v:DV} (h:jK ty S aH t a b=some (v,S')) (hn:aH<S.length):∃ w,S'=appW w S∧(∀ i c,w=some (i,c)→(i=aH∨∃ r tk f,a = .sl r (some tk) f∧i=tk)∧i<S.length) ∧
  ∀ T:ax,T.length=S.length→(∀ r tk f,a = .sl r (some tk) f→T[tk]? = S[tk]?)→jK ty T aH t a b=some (v,appW w T):=by
 unfold jK at h ⊢
 split at h
 ·rename_i e s lK agg sz z rows tok full news E7 YF XI
  split at h
  ·rename_i uF
   cases h
   exact⟨none,rfl,by simp,fun T _ _=>by simp only[uF,if_true]; rfl⟩
  ·rename_i uF
   split at h
   ·rename_i hte
    split at h
    ·rename_i hc
     cases tok with
     | none =>
      simp only at h
      split at h
      ·rename_i hf
       cases h
       refine⟨some (aH,.tail e s ((rows.length+news.length)*s)),oO hn _,fun i c hw => ?_,fun T hT _ => ?_⟩
       ·cases hw; exact⟨.inl rfl,hn⟩
       ·simp only[uF,hc,hf,if_true,aF,if_false]
        rw[oO (by omega)]
        rfl
      ·cases h
     | some tk =>
      simp only at h
      split at h
      ·rename_i e' s' n' hS
       split at h
       ·rename_i x5
        cases h
        refine⟨some (tk,.tail e s ((rows.length+news.length)*s)),rfl,fun i c hw => ?_,fun T hT hl => ?_⟩
        ·cases hw; exact⟨.inr ⟨rows,tk,full,rfl,rfl⟩,iI hS⟩
        ·have hT2:T[tk]? = some (.tail e' s' n'):=(hl rows tk full rfl).trans hS
         simp only[uF,hc,hT2,x5,if_true,aF,if_false]
         rfl
       ·cases h
      ·cases h
    ·cases h
   ·cases h
 ·cases h
theorem Oy {g:FuncId} {args:List DV} {S:ax} {i:Nat} {v:DV} {l:List DV} (h:zg call g args S=some (i,v,l)):i<S.length∧∀ T:ax,T[i]? = S[i]? → zg call g args T=some (i,v,l):=by
 unfold zg at h ⊢
 split at h
 ·rename_i j off rest
  split at h
  ·rename_i l0 hj
   split at h
   ·rename_i hc
    split at h
    ·rename_i v2 l' T2 jk
     split at h
     ·rename_i hq
      cases h
      refine⟨iI hj,fun T hT => ?_⟩
      rw[hj] at hT
      simp only[hT,if_pos hc,jk,if_pos hq]
     ·cases h
    ·cases h
   ·cases h
  ·cases h
 ·cases h
theorem RM {ρ:Operand→Option DV} {o:Oper} {S S':ax} {aH:Nat} {v:DV} {f:dD} (h:aL P ty aM call yf ρ o S aH=some (v,S',f)) {F:List Nat} (hF:f.ids=some F):∃ w,Eff P ty aM call yf ρ o S aH v S' f F w:=by
 obtain⟨dst,op,type,pos,after,guard⟩:=o
 have plain:∀ (hop:tQ op),(ah P ty aM call yf ρ ⟨dst,op,type,pos,after,guard⟩ S aH).map (fun r=>(r.1,r.2,(⟨some [],false⟩:dD)))=some (v,S',f)→(∀ T,aL P ty aM call yf ρ ⟨dst,op,type,pos,after,guard⟩ T aH=(ah P ty aM call yf ρ ⟨dst,op,type,pos,after,guard⟩ T aH).map (fun r=>(r.1,r.2,(⟨some [],false⟩:dD))))→∃ w,Eff P ty aM call yf ρ ⟨dst,op,type,pos,after,guard⟩ S aH v S' f F w:=by
  intro hop h1 h2
  simp only[ai,ay] at h1
  obtain⟨⟨d,S1⟩,h3,rfl,rfl,rfl⟩:=h1
  obtain⟨h4,h5⟩:=B3 hop h3
  exact⟨none,h4,by simp,fun T _ _=>by rw[h2,h5 T aH]; rfl⟩
 cases op
 case alloc e =>
  simp only[aL] at h
  split at h
  ·rename_i hS
   have hlt:=iI hS
   simp only[ah] at h
   split at h
   ·rename_i hk
    cases h
    cases hF
    refine⟨some (aH,_),oO hlt _,fun i b hw=>by cases hw; exact⟨by simp,rfl,hlt⟩,fun T hT hx => ?_⟩
    have:=hx aH (by simp)
    have hl:=hT (by simp)
    simp only[aL,this,hS,ah,hk,Option.map_some]
    rw[oO (by omega)]
    rfl
   ·cases h
  ·cases h
 case box e a =>
  simp only[aL] at h
  split at h
  ·rename_i hS
   have hlt:=iI hS
   simp only[ah] at h
   split at h
   ·rename_i hk
    cases h
    cases hF
    refine⟨some (aH,_),oO hlt _,fun i b hw=>by cases hw; exact⟨by simp,rfl,hlt⟩,fun T hT hx => ?_⟩
    have:=hx aH (by simp)
    have hl:=hT (by simp)
    simp only[aL,this,hS,ah,hk,Option.map_some]
    rw[oO (by omega)]
    rfl
   ·cases h
  ·cases h
 case makeMap t r =>
  cases r with
  | some a =>
   simp only[aL] at h
   split at h
   ·simp[ah] at h
   ·cases h
  | none =>
   simp only[aL] at h
   split at h
   ·rename_i hS
    have hlt:=iI hS
    simp only[ah] at h
    cases h
    cases hF
    refine⟨some (aH,_),oO hlt _,fun i b hw=>by cases hw; exact⟨by simp,rfl,hlt⟩,fun T hT hx => ?_⟩
    have:=hx aH (by simp)
    have hl:=hT (by simp)
    simp only[aL,this,hS,ah,Option.map_some]
    rw[oO (by omega)]
    rfl
   ·cases h
 case store t a b =>
  simp only[aL] at h
  split at h
  ·rename_i id off ha
   simp only[ah,ha] at h
   split at h
   ·rename_i a' v' h1 h2
    cases h1
    unfold oq at h
    split at h
    ·rename_i td jE uB hk Y3
     cases Y3
     split at h
     ·rename_i l hl
      split at h
      ·rename_i hc
       simp only[Option.map_map,ai,Function.comp_apply,ay] at h
       obtain⟨l',h3,rfl,rfl,rfl⟩:=h
       cases hF
       refine⟨some (id,.cells l'),rfl,fun i b hw=>by cases hw; exact⟨by simp,rfl,iI hl⟩,fun T hT hx => ?_⟩
       have:=hx id (by simp)
       simp only[aL,ha,ah,h2,oq,hk,this,hl,hc,if_true,h3,Option.map_some]
       rfl
      ·cases h
     ·cases h
    ·rename_i Y3; cases Y3
    ·cases h
   ·cases h
  ·rename_i id n off ha
   simp only[ah,ha] at h
   split at h
   ·rename_i a' v' h1 h2
    cases h1
    unfold oq at h
    split at h
    ·rename_i Y3; cases Y3
    ·rename_i td jE n' uB hk Y3
     cases Y3
     split at h
     ·rename_i e s l hop
      have hl:=(lD hop).1
      split at h
      ·rename_i hc
       simp only[Option.map_map,ai,Function.comp_apply,ay] at h
       obtain⟨l',h3,rfl,rfl,rfl⟩:=h
       cases hF
       refine⟨some (id,.op e s l' false),rfl,fun i b hw=>by cases hw; exact⟨by simp,rfl,iI hl⟩,fun T hT hx => ?_⟩
       have:=hx id (by simp)
       simp only[aL,ha,ah,h2,oq,hk,Ft this,hop,hc,if_true,h3,Option.map_some]
       rfl
      ·cases h
     ·cases h
    ·cases h
   ·cases h
  ·cases h
 case makeSlice t a b=>simp only[aL] at h; cases h
 case buildSlice t n ps =>
  simp only[aL] at h
  split at h
  ·cases h
  ·rename_i hh
   simp only[ai,ay] at h
   obtain⟨⟨d,S1⟩,h3,rfl,rfl,rfl⟩:=h
   cases hF
   obtain⟨h4,h5⟩:=EN rfl hh h3
   refine⟨none,h4,by simp,fun T hT hx => ?_⟩
   simp only[aL,h5 T aH,Option.map_some]
   rfl
 case fieldAddr t a f' =>
  simp only[aL] at h
  split at h
  ·rename_i id n off ha
   simp only[ai,ay] at h
   obtain⟨⟨d,S1⟩,h3,rfl,rfl,rfl⟩:=h
   cases hF
   refine⟨none,(qq (T:=S) (fun _ _ _ _=>rfl) h3).1,by simp,fun T hT hx => ?_⟩
   have h5:=(qq (T:=T) (fun jE n' uB he=>by rw[ha] at he; cases he; exact hx id (by simp)) h3).2 aH
   simp only[aL,ha,h5,Option.map_some]
   rfl
  ·rename_i hno
   simp only[ai,ay] at h
   obtain⟨⟨d,S1⟩,h3,rfl,rfl,rfl⟩:=h
   cases hF
   refine⟨none,(qq (T:=S) (fun _ _ _ _=>rfl) h3).1,by simp,fun T hT hx => ?_⟩
   have h5:=(qq (T:=T) (fun jE n' uB he=>absurd he (hno _ _ _)) h3).2 aH
   simp only[aL,h5,Option.map_some]
   rfl
 case indexAddr t a i =>
  simp only[aL] at h
  split at h
  ·rename_i id n ag ha
   simp only[ai,ay] at h
   obtain⟨⟨d,S1⟩,h3,rfl,rfl,rfl⟩:=h
   cases hF
   refine⟨none,(qo (T:=S) (fun _ _ _ _=>rfl) h3).1,by simp,fun T hT hx => ?_⟩
   have h5:=(qo (T:=T) (fun jE n' uB he=>by rw[ha] at he; cases he; exact hx id (by simp)) h3).2 aH
   simp only[aL,ha,h5,Option.map_some]
   rfl
  ·rename_i hno
   simp only[ai,ay] at h
   obtain⟨⟨d,S1⟩,h3,rfl,rfl,rfl⟩:=h
   cases hF
   refine⟨none,(qo (T:=S) (fun _ _ _ _=>rfl) h3).1,by simp,fun T hT hx => ?_⟩
   have h5:=(qo (T:=T) (fun jE n' uB he=>absurd he (hno _ _ _)) h3).2 aH
   simp only[aL,h5,Option.map_some]
   rfl
 case load t a =>
  simp only[aL] at h
  split at h
  ·rename_i id off ha
   simp only[ah,ha] at h
   simp only[Option.map_map,ai,Function.comp_apply,ay] at h
   obtain⟨d,h3,rfl,rfl,rfl⟩:=h
   cases hF
   refine⟨none,rfl,by simp,fun T hT hx => ?_⟩
   have:=hx id (by simp)
   simp only[aL,ha,ah,OI this,h3,Option.map_some]
   rfl
  ·rename_i id n off ha
   simp only[ah,ha] at h
   simp only[Option.map_map,ai,Function.comp_apply,ay] at h
   obtain⟨d,h3,rfl,rfl,rfl⟩:=h
   cases hF
   refine⟨none,rfl,by simp,fun T hT hx => ?_⟩
   have:=hx id (by simp)
   simp only[aL,ha,ah,KR this,h3,Option.map_some]
   rfl
  ·rename_i hno ab9
   simp only[ah] at h
   split at h
   ·rename_i a' ha
    simp only[Option.map_map,ai,Function.comp_apply,ay] at h
    obtain⟨d,h3,rfl,rfl,rfl⟩:=h
    cases hF
    refine⟨none,rfl,by simp,fun T hT hx => ?_⟩
    have hld:kg ty T t a'=some d:=by
     cases a' with
     | ptr id off=>exact absurd ha (hno id off)
     | fC id n off=>exact absurd ha (ab9 id n off)
     | eL rows i off=>rw[← h3]; exact KS
     | _=>unfold kg at h3; split at h3<;>simp_all
    cases a' with
    | ptr id off=>exact absurd ha (hno id off)
    | fC id n off=>exact absurd ha (ab9 id n off)
    | _=>simp only[aL,ha,ah,hld,Option.map_some]; rfl
   ·cases h
 case lookup t m k ok =>
  simp only[aL] at h
  split at h
  ·rename_i id ha
   simp only[ah,ha] at h
   split at h
   ·rename_i kv hm hk
    cases hm
    split at h
    ·rename_i es hS
     simp only[Option.map_map,ai,Function.comp_apply,ay] at h
     obtain⟨d,h3,rfl,rfl,rfl⟩:=h
     cases hF
     refine⟨none,rfl,by simp,fun T hT hx => ?_⟩
     have:=hx id (by simp)
     simp only[aL,ha,ah,hk,this,hS,h3,Option.map_some]
     rfl
    ·cases h
   ·cases h
  ·cases h
 case mapUpdate t m k a =>
  simp only[aL] at h
  split at h
  ·rename_i id ha
   simp only[ah,ha] at h
   split at h
   ·rename_i jE kv vv hm hk hv
    cases hm
    split at h
    ·rename_i es hS
     split at h
     ·rename_i r hr
      simp only[Option.map_map,ai,Function.comp_apply,ay] at h
      obtain⟨es',h3,rfl,rfl,rfl⟩:=h
      cases hF
      refine⟨some (id,.map es'),rfl,fun i b hw=>by cases hw; exact⟨by simp,rfl,iI hS⟩,fun T hT hx => ?_⟩
      have:=hx id (by simp)
      simp only[aL,ha,ah,hk,hv,this,hS,hr,h3,Option.map_some]
      rfl
     ·cases h
    ·cases h
   ·cases h
  ·cases h
 case call c =>
  obtain⟨callee,args,ats⟩:=c
  cases callee with
  | invoke r m=>simp[aL,ah] at h
  | value g =>
   simp only[aL] at h
   split at h
   ·rename_i g' fs cs xs hf Py
    split at h
    ·cases h
    rename_i hh
    split at h
    ·rename_i hp
     simp only[ai,ay] at h
     obtain⟨d,h3,rfl,rfl,rfl⟩:=h
     cases hF
     exact⟨none,rfl,by simp,fun T hT hx=>by simp only[aL,hf,Py,if_neg hh,hp,if_true,h3,Option.map_some]; rfl⟩
    ·rename_i hp
     split at h
     ·rename_i i v1 l1 ho
      cases h
      cases hF
      obtain⟨hi,hT⟩:=Oy ho
      exact⟨some (i,.cells l1),rfl,fun _ _ hw=>by cases hw; exact⟨by simp,rfl,hi⟩,fun T _ hx=>by simp only[aL,hf,Py,if_neg hh,if_neg hp,hT T (hx i (by simp))]; rfl⟩
     ·simp only[ai,ay] at h
      obtain⟨r,h3,rfl,rfl,rfl⟩:=h
      cases hF
   ·simp only[ai,ay] at h
    obtain⟨r,h3,rfl,rfl,rfl⟩:=h
    cases hF
   ·cases h
  | builtin b =>
   by_cases hb:b = .append
   ·subst hb
    simp only[aL] at h
    split at h
    ·cases h
    rename_i hh
    split at h
    ·cases h
    rename_i hsl
    have ab7:∀ a da,args.toList[0]? = some a→ρ a=some da→Br (some da)=false:=fun a da h0 h1=>by
     have:args[0]? = some a:=by rw[← gE]; exact h0
     rw[this] at hsl
     rw[← h1]
     simpa using hsl
    have hstep:∀ T:ax,ah P ty aM call yf ρ ⟨dst,.call ⟨.builtin .append,args,ats⟩,type,pos,after,guard⟩ T aH=match args.toList,ats.toList with
      | [x,y],[t,u]=>if t=u then match ρ x,ρ y with
        | some a,some b=>jK ty T aH t a b
        | _,_=>none
       else none
      | _,_=>none:=fun T=>by
     simp only[ah]
     generalize args.toList=l at ab7
     generalize ats.toList=m
     match l,m with
     | [x,y],[t,u] =>
      dsimp only
      cases hx:ρ x with
      | none=>rfl
      | some a =>
       cases ρ y with
       | none=>rfl
       | some b =>
        have h0:=ab7 x a rfl hx
        cases a<;>first | (simp[Br] at h0; done) | rfl | (dsimp only; split<;>first | exact absurd ‹_› hh | rfl)
     | [],_=>rfl
     | [_],_=>rfl
     | _::_::_::_,_=>rfl
     | [_,_],[]=>rfl
     | [_,_],[_]=>rfl
     | [_,_],_::_::_::_=>rfl
    have main:∀ (r:DV×ax) (F:List Nat),ah P ty aM call yf ρ ⟨dst,.call ⟨.builtin .append,args,ats⟩,type,pos,after,guard⟩ S aH=some r→S[aH]? = some .none→aH∈F→(∀ rw tk fl,(args[0]?).bind ρ=some (.sl rw (some tk) fl)→tk∈F)→(∀ T:ax,T[aH]? = some .none→aL P ty aM call yf ρ ⟨dst,.call ⟨.builtin .append,args,ats⟩,type,pos,after,guard⟩ T aH=(ah P ty aM call yf ρ ⟨dst,.call ⟨.builtin .append,args,ats⟩,type,pos,after,guard⟩ T aH).map (fun r=>(r.1,r.2,(⟨some F,true⟩:dD)))) →
      ∃ w,Eff P ty aM call yf ρ ⟨dst,.call ⟨.builtin .append,args,ats⟩,type,pos,after,guard⟩ S aH r.1 r.2 ⟨some F,true⟩ F w:=by
     intro r F hr hS hnF htk EX
     rw[hstep] at hr
     split at hr
     ·rename_i a b t u kU P9
      split at hr
      ·rename_i PA
       split at hr
       ·rename_i da db ha nO
        obtain⟨w,w1,w2,w3⟩:=Jg (v:=r.1) (S':=r.2) hr (iI hS)
        have Dc:(args[0]?).bind ρ=some da:=by
         have:args[0]? = some a:=by rw[← gE,kU]; rfl
         rw[this]; exact ha
        refine⟨w,w1,fun i c hw => ?_,fun T hT hx => ?_⟩
        ·obtain⟨h1,h2⟩:=w2 i c hw
         rcases h1 with rfl | ⟨rw',tk,fl,rfl,rfl⟩
         ·exact⟨hnF,rfl,h2⟩
         ·exact⟨htk _ _ _ Dc,rfl,h2⟩
        ·have hl:=hT (List.ne_nil_of_mem hnF)
         have hT2:=(hx aH hnF).trans hS
         have:=w3 T hl fun rw' tk fl uv=>hx tk (htk rw' tk fl (by rw[Dc,uv]))
         rw[EX T hT2,hstep,kU,P9]
         simp only[if_pos PA,ha,nO,this,Option.map_some]
       ·cases hr
      ·cases hr
     ·cases hr
    split at h
    ·rename_i rw' tk fl hS nO
     simp only[ai,ay] at h
     obtain⟨r,h3,rfl,rfl,rfl⟩:=h
     cases hF
     exact main r [tk,aH] h3 hS (by simp) (fun _ _ _ he=>by rw[nO] at he; cases he; simp) fun T hT=>by simp only[aL,if_neg hh,hT,nO,Br,aF,if_false]
    ·rename_i hS hno
     simp only[ai,ay] at h
     obtain⟨r,h3,rfl,rfl,rfl⟩:=h
     cases hF
     refine main r [aH] h3 hS (by simp) (fun rw' tk fl he=>absurd he (hno rw' tk fl)) fun T hT => ?_
     simp only[aL,if_neg hh,if_neg hsl,hT]
    ·cases h
   ·have hop:tQ (.call ⟨.builtin b,args,ats⟩):=by cases b<;>first | trivial | exact absurd rfl hb
    have EX:∀ T,aL P ty aM call yf ρ ⟨dst,.call ⟨.builtin b,args,ats⟩,type,pos,after,guard⟩ T aH=(ah P ty aM call yf ρ ⟨dst,.call ⟨.builtin b,args,ats⟩,type,pos,after,guard⟩ T aH).map (fun r=>(r.1,r.2,(⟨some [],false⟩:dD))):=fun T=>by
     cases b<;>first | rfl | exact absurd rfl hb
    rw[EX] at h
    exact plain hop h EX
 all_goals exact plain trivial h fun T=>rfl
end Go.Di
end
