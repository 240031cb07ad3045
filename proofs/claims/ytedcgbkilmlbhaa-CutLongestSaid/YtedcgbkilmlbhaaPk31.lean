import Derived.Test.YtedcgbkilmlbhaaPk30
import Derived.Orders
namespace Go.Di
open Go Go.Conc Go.Co
open Go.ConcN (sumTo sumTo_upd sumTo_congr le_sumTo upd upd_same upd_ne)
variable {P:Program} {aa:Machine->Trace->Prop} {ty:fP} {x:Cx} {aI:bS} {call:bt} {yf:ew}
def Closed(ops:Array Oper)(L:Nat->Bool):Prop:=∀j o,ops[j]? =some o->L j=true->∀e∈o.after,Region.binds .any e=true->L e.on=true
theorem xx{ops:Array Oper}(rO:∀i o,ops[i]? =some o->∀e∈o.after,Region.binds .any e=true->e.on<i){σ:Type}(T:List Nat->σ->Prop)(J:(Nat->Bool)->σ->Prop)
  (hop:∀L s i o,J L s->Closed ops L->ops[i]? =some o->L i=false->(∀e∈o.after,Region.binds .any e=true->L e.on=true)->∀rest,(∀s',J (upd L i true) s'->T rest s')->T (i::rest) s)
  (uz:∀L s,J L s->(∀i,i<ops.size->L i=true)->T [] s) (t:Nat) (s:σ) (h0:J (λ_=>false) s):T (Region.linearise .any ops t) s:=by
 have key:∀(fuel t:Nat)(listed:Array Bool)(s:σ),listed.size=ops.size->sumTo ops.size (λj=>if listed.getD j true then 0 else 1)=fuel->J (λj=>listed.getD j false) s->Closed ops (λj=>listed.getD j false)->T (Region.linearise.go .any ops fuel t listed []) s:=by
  intro fuel;induction fuel with
  |zero=>
   intro t listed s hsz MU hJ _;refine uz _ s hJ λi hi=>?_;have h1:=le_sumTo (f:=λj=>if listed.getD j true then 0 else 1) hi;rw[MU]at h1;have h2:listed.getD i true=true:=by
    cases h:listed.getD i true with
    |true=>rfl
    |false=>simp[h]at h1
   simpa [cr (show i<listed.size by omega)]using h2
  |succ fuel ih=>
   intro t listed s hsz MU hJ tY;simp only[Region.linearise.go];change T (match(Region.ready .any ops listed)[t % (Region.ready .any ops listed).length]? with
    |some i=>Region.linearise.go .any ops fuel (t/(Region.ready .any ops listed).length) (listed.setIfInBounds i true) [i]
    |none=>[].reverse) s
   cases hi:(Region.ready .any ops listed)[t % (Region.ready .any ops listed).length]? with
   |none=>
    have MV:Region.ready .any ops listed=[]:=by
     cases hr:Region.ready .any ops listed with
     |nil=>rfl
     |cons x xs=>rw[hr]at hi;have hlt:t % (x::xs).length<(x::xs).length:=Nat.mod_lt _ (by simp);simp at hi;simp at hlt;omega
    refine uz _ s hJ λi hi=>?_;induction i using Nat.strongRecOn with
    |ind i ihi=>
     have OK:i<listed.size:=by omega
     cases hb:listed.getD i false with
     |true=>rfl
     |false=>
      have kM:i∈Region.ready .any ops listed:=by refine mem_ready.2 ⟨by simpa [cr OK]using hb,ops[i],cr hi,λe he hbd=>?_⟩;have hlt:=rO i _ (cr hi) e he hbd;exact ihi e.on hlt (by omega)
      rw[MV]at kM;cases kM
   |some i=>
    simp only[];rw[linearise_go_acc,List.reverse_singleton,List.singleton_append];have kM:=b9 hi;obtain⟨hun,o,ho,fN⟩:=mem_ready.1 kM;have hio:i<ops.size:=(aL.1 ho).1;have OK:i<listed.size:=by omega
    have h2:(λj=>(listed.setIfInBounds i true).getD j false)=upd (λj=>listed.getD j false) i true:=by
     funext j;by_cases ic:j=i;.subst ic;rw[upd_same];simp[kZ OK]
     rw[upd_ne _ _ ic,getD_set_ne false (Ne.symm ic)]
    refine hop _ s i o hJ tY ho (by simpa [cr OK]using hun) (λe he hb=>fN e he hb) _ λs' hJ'=>ih _ _ s' (by simpa using hsz) ?_ (by rw[h2];exact hJ') ?_
    .have h1:=sumTo_upd (λj=>listed.getD j true) true (λb=>if b then 0 else 1) hio;rw[hun]at h1;simp only[if_true,aG,if_false]at h1;have h2:sumTo ops.size (λj=>if(listed.setIfInBounds i true).getD j true then 0 else 1)=sumTo ops.size λj=>if upd (λj=>listed.getD j true) i true j then 0 else 1:=by
      refine sumTo_congr λj _=>?_;by_cases ic:j=i;.subst ic;rw[upd_same];simp[kZ OK]
      rw[upd_ne _ _ ic,getD_set_ne true (Ne.symm ic)]
     rw[h2];omega
    rw[h2];intro j o' mP hj e he hb;by_cases ic:j=i
    .subst ic;rw[ho]at mP;cases mP;by_cases OO:e.on=j;.rw[OO,upd_same]
     rw[upd_ne _ _ OO];exact fN e he hb
    rw[upd_ne _ _ ic]at hj;by_cases OO:e.on=i;.rw[OO,upd_same]
    rw[upd_ne _ _ OO];exact tY j o' mP hj e he hb
 refine key ops.size t (Array.replicate ops.size false) s (by simp) ?_ ?_ ?_
 .have:∀n,n<=ops.size->sumTo n (λj=>if(Array.replicate ops.size false).getD j true then 0 else 1)=n:=by
   intro n;induction n with
   |zero=>intro _;rfl
   |succ n ih=>intro hn;simp only[sumTo];rw[ih (by omega)];simp[show n<ops.size by omega]
  exact this _ (aj _)
 .have:(λj=>(Array.replicate ops.size false).getD j false)=λ_=>false:=by funext j;simp[bq,Array.getElem?_replicate];split<;>rfl
  rw[this];exact h0
 intro j o _ hj;exfalso
 revert hj
 simp[bq,Array.getElem?_replicate];split<;>simp
theorem vu(ops:Array Oper){L:Nat->Bool}(hL:Closed ops L):∀j i,((Region.before ops).getD j 0).testBit i=true->L j=true->L i=true:=by
 have key:∀(l pre:List Oper)(acc:Array Nat),ops.toList=pre++l->acc.size=pre.length->(∀j i,(acc.getD j 0).testBit i=true->L j=true->L i=true)->
   ∀j i,((l.foldl (λacc (o:Oper)=>acc.push (o.after.foldl (λs e=>if Region.binds .any e then s|||2^e.on|||acc.getD e.on 0 else s) 0)) acc).getD j 0).testBit i=true->L j=true->L i=true:=by
  intro l;induction l with
  |nil=>intro pre acc _ _ h;exact h
  |cons o l ih=>
   intro pre acc Ic hsz h;simp only[gu];refine ih (pre++[o]) _ (by rw[Ic];simp) (by simp[hsz]) λj i ht hj=>?_;have ho:ops[pre.length]? =some o:=by rw[<-kY,Ic];simp
   by_cases hjs:j<acc.size;.refine h j i ?_ hj;rw[bq,Array.getElem?_push_lt hjs]at ht;rw[bq,cr hjs];exact ht
   by_cases hje:j=acc.size
   .subst hje;rw[bq,Array.getElem?_push_size,mC]at ht;rw[hsz]at hj;have fN:=hL _ _ ho hj;have fold:∀(es:List Edge)(s:Nat),(∀e∈es,e∈o.after)->(s.testBit i=true->L i=true)->(es.foldl (λs e=>if Region.binds .any e then s|||2^e.on|||acc.getD e.on 0 else s) s).testBit i=true->L i=true:=by
     intro es;induction es with
     |nil=>intro s _ hs ht;exact hs ht
     |cons e es ihe=>
      intro s he hs ht;simp only[gu]at ht;refine ihe _ (λe' h'=>he e' (by simp[h'])) (λhb=>?_) ht;split at hb
      .rename_i hbd;simp only[Nat.testBit_or,gP,Nat.testBit_two_pow,cC]at hb;rcases hb with (hb|hb)|hb;.exact hs hb
       .rw[<-hb];exact fN e (he e (by simp)) hbd
       exact h _ _ hb (fN e (he e (by simp)) hbd)
      exact hs hb
    rw[<-zo]at ht;exact fold o.after.toList 0 (by simp) (by simp) ht
   rw[bq,mG (by simp;omega)]at ht;simp at ht
 intro j i;unfold Region.before;rw[<-zo];exact key ops.toList [] #[] rfl rfl (by simp) j i
theorem nw{ρ ρ':Operand->Option DV}:∀{l:List Operand},(∀a∈l,ρ a=ρ' a)->evs ρ l=evs ρ' l
 |[],_=>rfl
 |a::l,h=>by unfold evs;rw[h a (by simp),nw λb hb=>h b (by simp[hb])]
theorem vh{ρ ρ':Operand->Option DV}:∀{l:List (Nat×Operand)},(∀a∈l.map (·.2),ρ a=ρ' a)->kI ρ l=kI ρ' l
 |[],_=>rfl
 |(i,a)::l,h=>by unfold kI;rw[h a (by simp),vh λb hb=>h b (by simp at hb⊢;exact .inr hb)]
theorem vt{ρ ρ':Operand->Option DV}{a:Option Operand}{d m:Nat}(h:∀b∈a.toArray,ρ b=ρ' b):iB ρ a d m=iB ρ' a d m:=by
 cases a with
 |none=>rfl
 |some b=>simp only[iB,intOf,h b (by simp)]
theorem Ab{ρ ρ':Operand->Option DV}{o:Oper}{S:ai}{aD:Nat}(h:∀a∈o.op.operands,ρ a=ρ' a):ah P ty aI call yf ρ o S aD=ah P ty aI call yf ρ' o S aD:=by
 obtain⟨dst,op,type,pos,after,guard⟩:=o;cases op<;>simp only[Op.operands,Call.operands]at h<;>try rfl
 case move a=>simp only[ah,h a (by simp)]
 case assign a=>simp only[ah,h a (by simp)]
 case pick a b c=>simp only[ah,h a (by simp),h b (by simp),h c (by simp)]
 case box t a=>simp only[ah,h a (by simp)]
 case build t ps=>
  have:=vh (ρ:=ρ) (ρ':=ρ') (l:=ps.toList) λa ha=>h a (by simpa using ha);simp only[ah,this]
 case buildSlice t n ps=>
  have:=vh (ρ:=ρ) (ρ':=ρ') (l:=ps.toList) λa ha=>h a (by simpa using ha);simp only[ah,this]
 case makeSlice t a b=>simp only[ah,intOf,h a (by simp),h b (by simp)]
 case load t a=>simp only[ah,h a (by simp)]
 case store t a v=>simp only[ah,h a (by simp),h v (by simp)]
 case nilCheck a=>simp only[ah,h a (by simp)]
 case binOp op t a b u=>simp only[ah,valOf,h a (by simp),h b (by simp)]
 case unOp op t a=>simp only[ah,valOf,h a (by simp)]
 case convert s d a=>simp only[ah,valOf,h a (by simp)]
 case makeFunc fn fs cs=>
  cases fn with
  |func f=>simp only[ah,nw (ρ:=ρ) (ρ':=ρ') (l:=fs.toList) λa ha=>h a (by simp at ha⊢;exact .inl ha),nw (ρ:=ρ) (ρ':=ρ') (l:=cs.toList) λa ha=>h a (by simp at ha⊢;exact .inr ha)]
  |_=>rfl
 case makeMap t r=>cases r<;>rfl
 case slice t a lo hi mx=>
  have h1:ρ a=ρ' a:=h a (by simp);have h2:=λd m=>vt (ρ:=ρ) (ρ':=ρ') (a:=lo) (d:=d) (m:=m) λb hb=>h b (by simp at hb⊢;simp[hb]);have h3:=λd m=>vt (ρ:=ρ) (ρ':=ρ') (a:=hi) (d:=d) (m:=m) λb hb=>h b (by simp at hb⊢;simp[hb]);have h4:=λd m=>vt (ρ:=ρ) (ρ':=ρ') (a:=mx) (d:=d) (m:=m) λb hb=>h b (by simp at hb⊢;simp[hb]);simp only[ah,h1,h2,h3,h4]
 case fieldAddr t a f=>simp only[ah,h a (by simp)]
 case field t a f=>simp only[ah,h a (by simp)]
 case indexAddr t a i=>simp only[ah,intOf,h a (by simp),h i (by simp)]
 case index t a i=>simp only[ah,intOf,h a (by simp),h i (by simp)]
 case lookup t a i ok=>simp only[ah,valOf,h a (by simp),h i (by simp)]
 case mapUpdate t m k v=>simp only[ah,valOf,h m (by simp),h k (by simp),h v (by simp)]
 case extract a i=>simp only[ah,h a (by simp)]
 case call c=>
  obtain⟨callee,args,ats⟩:=c;cases callee with
  |builtin b=>
   simp only[Array.empty_append]at h;have h1:∀a∈args.toList,ρ a=ρ' a:=λa ha=>h a (by simpa using ha);have h2:=nw h1;simp only[ah];generalize args.toList=l at h1 h2;generalize ats.toList=m;cases b<;>try rfl
   .match l,m with
    |[a,c],[t,u]=>simp only[h1 a (by simp),h1 c (by simp)]
    |[],_=>rfl
    |[_],_=>rfl
    |_::_::_::_,_=>rfl
    |[_,_],[]=>rfl
    |[_,_],[_]=>rfl
    |[_,_],_::_::_::_=>rfl
   .match l,m with
    |[a],[t]=>simp only[h1 a (by simp)]
    |[],_=>rfl
    |_::_::_,_=>rfl
    |[_],[]=>rfl
    |[_],_::_::_=>rfl
   .simp only[h2]
   simp only[h2]
  |value f=>have h1:ρ f=ρ' f:=h f (by simp);have h2:=nw (ρ:=ρ) (ρ':=ρ') (l:=args.toList) λa ha=>h a (by simp at ha⊢;exact .inr ha);simp only[ah,h1,h2]
  |invoke r m=>rfl
end Go.Di
namespace Go.Di
open Go Go.Conc Go.Co
open Go.ConcN (sumTo sumTo_upd sumTo_congr le_sumTo upd upd_same upd_ne)
variable {P:Program} {aa:Machine->Trace->Prop} {ty:fP} {x:Cx} {aI:bS} {call:bt} {yf:ew}
def KE(ops:Array Oper):Prop:=∀i o,ops[i]? =some o->∀e∈o.after,Region.binds .any e=true->e.on<i
theorem HK{ops:Array Oper}(rO:KE ops){i j:Nat}(hne:i≠j)(h:((Region.before ops).getD j 0).testBit i=true):i<j:=by
 have tY:Closed ops λk=>decide (k<=j):=by intro k o ho hk e he hb;have:=rO k o ho e he hb;simp only[cC]at hk⊢;omega
 have:=vu ops tY j i h (by simp);simp only[cC]at this;omega
theorem PU{ops:Array Oper}(rO:KE ops){L:Nat->Bool}(hL:Closed ops L){i j:Nat}{o:Oper}(ho:ops[i]? =some o)(hi:L i=false)(yF:∀e∈o.after,Region.binds .any e=true->L e.on=true)(hne:i≠j)
  (h:((Region.before ops).getD j 0).testBit i=true\/((Region.before ops).getD i 0).testBit j=true):L j=true↔j<i:=by
 rcases h with h|h;· have h1:=HK rO hne h;refine⟨λhj=>?_,λhj=>by omega⟩;have:=vu ops hL j i h hj;rw[hi]at this;cases this
 have h1:=HK rO (Ne.symm hne) h;refine⟨λ_=>h1,λ_=>?_⟩;have tY:Closed ops (upd L i true):=by
  intro k o' mP hk e he hb;by_cases SZ:k=i
  .subst SZ;rw[ho]at mP;cases mP;by_cases OO:e.on=k;· rw[OO,upd_same]
   rw[upd_ne _ _ OO];exact yF e he hb
  rw[upd_ne _ _ SZ]at hk;by_cases OO:e.on=i;· rw[OO,upd_same]
  rw[upd_ne _ _ OO];exact hL k o' mP hk e he hb
 have:=vu ops tY i j h (upd_same _ _ _)
 rwa [upd_ne _ _ (Ne.symm hne)]at this
def qE(ops:Array Oper)(j:Nat)(t:Tmp):Bool:=match ops[j]? with
 |some o=>o.dst==some t
 |none=>false
def nZ(ops:Array Oper)(V:Nat->DV)(L:Nat->Bool)(t:Tmp):Nat->Option DV
 |0=>none
 |n+1=>if L n&&qE ops n t then some (V n)else nZ ops V L t n
theorem lT{ops:Array Oper}{V:Nat->DV}{L:Nat->Bool}{t:Tmp}{i:Nat}:∀{n:Nat},i<=n->(∀j,j<n->qE ops j t=true->(L j=true↔j<i))->nZ ops V L t n=nZ ops V (λ_=>true) t i
 |0,h,_=>by
  have:i=0:=by omega
  subst this;rfl
 |n+1,h,hj=>by
  by_cases pz:i=n+1
  .subst pz;unfold nZ;by_cases hd:qE ops n t=true;· have:=(hj n (by omega) hd).2 (by omega);simp only[this,hd,fV,if_true]
   simp only[aA,hd,and_false,if_false,aG];exact lT (aj _) λj h1 h2=>⟨λ_=>h1,λ_=>(hj j (qR h1) h2).2 (qR h1)⟩
  have hle:i<=n:=by omega
  rw[<-lT hle λj h1 h2=>hj j (by omega) h2]
  conv=>lhs;unfold nZ
  by_cases hd:qE ops n t=true
  .have:L n=false:=by
    cases hLn:L n with
    |false=>rfl
    |true=>have:=(hj n (by omega) hd).1 hLn;omega
   rw[this];simp
  simp[hd]
theorem Ci{ops:Array Oper}{V:Nat->DV}{L:Nat->Bool}{t:Tmp}{i:Nat}(hd:qE ops i t=false):∀n,nZ ops V (upd L i true) t n=nZ ops V L t n
 |0=>rfl
 |n+1=>by
  unfold nZ;rw[Ci hd n];by_cases h:n=i;· subst h;simp[hd]
  rw[upd_ne _ _ h]
def Gx(ops:Array Oper)(V:Nat->DV)(L:Nat->Bool)(n:Nat)(aim env:List DV):Prop:=∀t,env[t]? =(aim[t]?).map λd=>(nZ ops V L t n).getD d
theorem Lb(env:List DV)(dst:Option Tmp)(v:DV)(t:Tmp):(kC env dst v)[t]? =if dst=some t then(env[t]?).map λ_=>v else env[t]? :=by
 cases dst with
 |none=>simp[kC]
 |some d=>
  simp only[kC,aF,aB];by_cases h:d=t
  .subst h;by_cases hl:d<env.length;· simp[hl]
   simp[hl]
  simp[h]
def Pg(ops:Array Oper)(V:Nat->DV)(E:Nat->List DV):Prop:=∀j o,ops[j]? =some o->E (j+1)=kC (E j) o.dst (V j)
theorem C1{ops:Array Oper}{V:Nat->DV}{E:Nat->List DV}(h:Pg ops V E):∀i,i<=ops.size->Gx ops V (λ_=>true) i (E 0) (E i)
 |0,_=>λt=>by simp[nZ]
 |i+1,hi=>λt=>by
  have ho:ops[i]? =some ops[i]:=cr (by omega);have ih:=C1 h i (by omega) t;rw[h i _ ho,Lb];unfold nZ;have hd:qE ops i t=(ops[i].dst==some t):=by unfold qE;rw[ho]
  by_cases YR:ops[i].dst=some t;· simp only[YR,if_true,hd,vV,fV,mC,ih,qP];rfl
  have:(ops[i].dst==some t)=false:=by simpa using YR
  simp only[YR,if_false,hd,this,qO,aG];exact ih
theorem HD{ops:Array Oper}{V:Nat->DV}{E:Nat->List DV}{L:Nat->Bool}{env:List DV}{i:Nat}{o:Oper}(ho:ops[i]? =some o)(hE:Gx ops V L ops.size (E 0) env)
  (agw:∀t,o.dst=some t->∀j,j<ops.size->qE ops j t=true->(upd L i true j=true↔j<i+1)):Gx ops V (upd L i true) ops.size (E 0) (kC env o.dst (V i)):=by
 intro t;have hi:i<ops.size:=(aL.1 ho).1;rw[Lb];have hd:qE ops i t=(o.dst==some t):=by unfold qE;rw[ho]
 by_cases YR:o.dst=some t
 .have e:nZ ops V (λ_=>true) t (i+1)=some (V i):=by unfold nZ;simp[hd,YR]
  rw[if_pos YR,lT (i:=i+1) (by omega) (agw t YR),hE t,e];simp[Function.comp_def]
 have h2:qE ops i t=false:=by rw[hd];simpa using YR
 rw[if_neg YR,Ci h2];exact hE t
theorem Ce{ops:Array Oper}(rO:KE ops)(HR:mm ops (Region.before ops)=true){V:Nat->DV}{E:Nat->List DV}(hS:Pg ops V E){L:Nat->Bool}(hL:Closed ops L){env:List DV}(hE:Gx ops V L ops.size (E 0) env){i:Nat}{o:Oper}(ho:ops[i]? =some o)(hi:L i=false)
  (yF:∀e∈o.after,Region.binds .any e=true->L e.on=true):(∀t∈mq ops o,env[t]? =(E i)[t]?)/\∀t,o.dst=some t->∀j,j<ops.size->qE ops j t=true->(upd L i true j=true↔j<i+1):=by
 have hio:i<ops.size:=(aL.1 ho).1;have hx:∀t∈mq ops o,∀j,j<ops.size->j≠i->qE ops j t=true->(L j=true↔j<i):=by
  intro t ht j hj hne hd;have hoj:ops[j]? =some ops[j]:=cr hj;have S4:ops[j].dst=some t:=by unfold qE at hd;rw[hoj]at hd;simpa using hd
  refine PU rO hL ho hi yF (Ne.symm hne) ?_;unfold mm at HR;simp only[aA,aT]at HR;have h1:=HR.2 (o,i) (by rw[wm];simpa using ho) (ops[j],j) (by rw[wm];simp);simp only[S4]at h1;have hc:(mq ops o).contains t=true:=by simpa using ht
  simp only[hc,gr,Bool.or_false,gP,dU]at h1;rcases h1 with (h1|h1)|h1;· exact absurd h1.symm hne
  .exact .inl h1
  exact .inr h1
 constructor
 .intro t ht;rw[hE t,C1 hS i (by omega) t];congr 1;funext d;rw[lT (i:=i) (by omega) λj hj hd=>?_];by_cases ic:j=i;· subst ic;simp[hi]
  exact hx t ht j hj ic hd
 intro t ht j hj hd;by_cases ic:j=i;· subst ic;simp[upd_same]
 rw[upd_ne _ _ ic,hx t (by simp[mq,ht]) j hj ic hd];omega
theorem HA{ops:Array Oper}{o:Oper}{env aK:List DV}(h:∀t∈mq ops o,env[t]? =aK[t]?):∀a∈o.op.operands,jy env a=jy aK a:=by
 intro a ha;cases a with
 |tmp t=>
  have:t∈mq ops o:=by
   unfold mq;simp only[dX];left;right
   rw[zu];exact⟨.tmp t,by simpa using ha,rfl⟩
  simp only[jy,aR,h t this]
 |_=>rfl
theorem zY{ops:Array Oper}{o:Oper}{env aK:List DV}(h:∀t∈mq ops o,env[t]? =aK[t]?):cI ops env o=cI ops aK o:=by
 unfold cI;cases hg:o.guard with
 |none=>rfl
 |some g=>
  obtain⟨j,want⟩:=g;simp only;cases hb:(ops[j]?).bind (·.dst)with
  |none=>rfl
  |some t=>
   have:t∈mq ops o:=by unfold mq;rw[hg];simp[hb]
   simp only[h t this]
theorem Lg{ops:Array Oper}(h:mm ops (Region.before ops)=true):KE ops:=by intro i o ho e he hb;unfold mm at h;simp only[aA,aT,Array.all_eq_true']at h;have h1:=h.1 (o,i) (by rw[wm];simpa using ho) e he;simpa [hb]using h1
theorem K4{ops:Array Oper}{S:ai}:∀{r:List Oper}{env aK:List DV},ry P ty aI call yf ops S r env=some aK->∃(E:Nat->List DV)(V:Nat->DV),E 0=env/\E r.length=aK/\
  ∀j o,r[j]? =some o->E (j+1)=kC (E j) o.dst (V j)/\(cI ops (E j) o=true->dH P ty aI call yf (jy (E j)) o S=some (V j))/\(cI ops (E j) o=false->V j=bE)
 |[],env,aK,h=>by simp only[ry,aB]at h;exact⟨λ_=>env,λ_=>bE,rfl,h,by simp⟩
 |o::r,env,aK,h=>by
  unfold ry at h;have key:∀v,ry P ty aI call yf ops S r (kC env o.dst v)=some aK->(cI ops env o=true->dH P ty aI call yf (jy env) o S=some v)->(cI ops env o=false->v=bE)->∃(E:Nat->List DV)(V:Nat->DV),E 0=env/\E (o::r).length=aK/\
    ∀j o',(o::r)[j]? =some o'->E (j+1)=kC (E j) o'.dst (V j)/\(cI ops (E j) o'=true->dH P ty aI call yf (jy (E j)) o' S=some (V j))/\(cI ops (E j) o'=false->V j=bE):=λv h1 h2 h3=>by
   obtain⟨E,V,e1,e2,e3⟩:=K4 h1;refine⟨λn=>match n with|0=>env|n+1=>E n,λn=>match n with|0=>v|n+1=>V n,rfl,by simpa using e2,λj o' mP=>?_⟩;cases j with
   |zero=>simp only[cg,aB]at mP;subst mP;exact⟨e1,h2,h3⟩
   |succ j=>exact e3 j o' (by simpa using mP)
  split at h
  .rename_i hw;split at h;· rename_i v h1;exact key v h (λ_=>h1) λhf=>by rw[hw]at hf;cases hf
   cases h
  rename_i hw;exact key bE h (λht=>absurd ht hw) λ_=>rfl
theorem quiet_step{ρ:Operand->Option DV}{o:Oper}{S:ai}{v:DV}(h:dH P ty aI call yf ρ o S=some v):ah P ty aI call yf ρ o S S.length=some (v,S):=by
 obtain⟨dst,op,type,pos,after,guard⟩:=o;have gen:∀{q:Option (DV×ai)},q.map (·.1)=some v->(∀d S',q=some (d,S')->S'=S)->q=some (v,S):=by intro q hq hs;simp only[af]at hq;obtain⟨⟨d,S'⟩,h1,rfl⟩:=hq;rw[h1,hs d S' h1]
 have mp:∀{β:Type}{q:Option β}{f:β->DV}{d:DV}{S':ai},q.map (λc=>(f c,S))=some (d,S')->S'=S:=by intro β q f d S' hq;simp only[af,ay]at hq;obtain⟨_,_,_,h⟩:=hq;exact h.symm
 cases op<;>simp only[dH]at h
 case call c=>
  obtain⟨callee,args,ats⟩:=c;cases callee with
  |builtin b=>
   cases b<;>simp only at h<;>first|cases h|skip
   all_goals
     refine gen h λd S' hq=>?_;simp only[ah]at hq
     repeat' split at hq
     all_goals first|contradiction|exact mp (f:=id) hq|exact mp hq|(cases hq;rfl)|(cases hq;done)|skip
  |value f=>
   simp only at h;split at h
   . rename_i g fs cs xs hf QO;split at h;· cases h
     rename_i hh;split at h;· rename_i hp;simp only[ah,hf,QO,xh,hp,if_true,h]
     cases h
   cases h
  |invoke r m=>simp[ah]at h
 case buildSlice t n ps=>
  split at h;· cases h
  rename_i hh;refine gen h λd S' hq=>?_;simp only[ah]at hq
  repeat' split at hq
  all_goals first|contradiction|(cases hq;first|rfl|contradiction)
 all_goals first
  |cases h
  |(refine gen h λd S' hq=>?_;simp only[ah]at hq;repeat' split at hq
    all_goals first|contradiction|exact mp (f:=id) hq|exact mp hq|(cases hq;rfl)|(cases hq;done)|skip)
theorem Mi{ρ ρ':Operand->Option DV}{o:Oper}{S:ai}(h:∀a∈o.op.operands,ρ a=ρ' a):dH P ty aI call yf ρ o S=dH P ty aI call yf ρ' o S:=by
 have hs:=Ab (P:=P) (ty:=ty) (aI:=aI) (call:=call) (yf:=yf) (S:=S) (aD:=S.length) h;unfold dH;split<;>try rfl
 .rw[hs]
 .rename_i f args ats hop;rw[hop]at h;have h1:ρ f=ρ' f:=h f (by simp[Op.operands,Call.operands]);have h2:=nw (ρ:=ρ) (ρ':=ρ') (l:=args.toList) λa ha=>h a (by simp[Op.operands,Call.operands]at ha⊢;exact .inr ha);rw[h1,h2]
 rw[hs]
theorem N0(hP:Plain P)(fG:kG P ty)(hc:iC P aa call)(hi:B2 P aa aI)(lX:BZ P aa yf){ops:Array Oper}{b:Frame}{k:List Item}{cs:List Frame}(hk:b.kind≠.early)(HR:mm ops (Region.before ops)=true)
  {env aK:List DV} {a:Act} (h:ry P ty aI call yf ops x.S ops.toList env=some aK) (hR:Rel x) (he:iw x env a.tmps)
  (hn:∀y a',y.S=x.S->Rel y->bU x y->iw y aK a'.tmps->a'.defers=a.defers->jk P aa () (G (b.atR a' k) cs) y.w) (t:Nat):jk P aa () (G (b.atR a (.inRegion ops (Region.linearise .any ops t)::k)) cs) x.w:=by
 have rO:=Lg HR;obtain⟨E,V,e1,e2,e3⟩:=K4 h;have Ic:∀(j:Nat)(o:Oper),ops[j]? =some o->ops.toList[j]? =some o:=λj o ho=>by simpa using ho
 have hS:Pg ops V E:=λj o ho=>(e3 j o (Ic j o ho)).1;refine xx rO (σ:=Act×Cx) (λtodo s=>s.2.S=x.S->Rel s.2->bU x s.2->s.1.defers=a.defers->jk P aa () (G (b.atR s.1 (.inRegion ops todo::k)) cs) s.2.w)
  (λL s=>∃qz,iw s.2 qz s.1.tmps/\Gx ops V L ops.size (E 0) qz) ?_ ?_ t (a,x) ⟨env,he,λt=>?_⟩ rfl hR (bU.refl x) rfl
 .rintro L ⟨a1,y⟩ i o ⟨qz,wM,YW⟩ tY ho S8 yF rest DF hSy CW TE MH;simp only at wM hSy CW TE MH⊢;obtain⟨q1,q2⟩:=Ce rO HR hS tY YW ho S8 yF;have hw:=zY q1;have Yh:=A1 wM ops o;have hE2:=HD (V:=V) ho YW q2;by_cases hwt:cI ops (E i) o=true;· have hq:=(e3 i o (Ic i o ho)).2.1 hwt;rw[<-Mi (HA q1),<-hSy]at hq;refine UF hP fG hc hi lX hk ho (by rw[Yh,hw];exact hwt) CW (.inl rfl) wM (quiet_step hq) λz u zS zR zM zV=>?_;have pM:=AM (wM.mono zM) (dst:=o.dst) zV;exact DF (a1.put o.dst u,z) ⟨_,pM.1,hE2⟩ (zS.trans hSy) zR (TE.trans zM) (pM.2.trans MH)
  have hwf:cI ops (E i) o=false:=by simpa using hwt
  have hv:=(e3 i o (Ic i o ho)).2.2 hwf;have pM:=AM wM (dst:=o.dst) (d:=V i) (v:=undef) (by rw[hv];exact .val rfl);exact gl hP (λw=>⟨_,vg ho (by rw[Yh,hw];exact hwf)⟩) (DF (a1.put o.dst undef,y) ⟨_,pM.1,hE2⟩ hSy CW TE (pM.2.trans MH))
 .rintro L ⟨a1,y⟩ ⟨qz,wM,YW⟩ fN hSy CW TE MH;have:qz=aK:=by
   refine mD λt=>?_;have hlen:E ops.size=aK:=by simpa using e2
   rw[YW t,<-hlen,C1 hS ops.size (aj _) t];congr 1;funext d;rw[lT (i:=ops.size) (aj _) λj hj _=>by simp[fN j hj,hj]]
  subst this;exact gl hP (λw=>⟨_,rI⟩) (hn y a1 hSy CW TE wM MH)
 rw[e1];have:∀n,nZ ops V (λ_=>false) t n=none:=by
  intro n;induction n with
  |zero=>rfl
  |succ n ih=>unfold nZ;simp[ih]
 rw[this];simp
end Go.Di
namespace Go.Di
open Go Go.Conc Go.Co
variable {P:Program} {aa:Machine->Trace->Prop} {x y:Cx} {R:List Nat} {T:ai}
theorem LP{S:ai}{i:Nat}(h:kV S R i=true):∃l,S[i]? =some (.cells l)/\(l.map dD).all (MA R)=true:=by
 unfold kV at h;split at h;.rename_i l hl;exact⟨l,hl,h⟩
 cases h
theorem qj{S:ai}{k:Nat}{b:DB}(h:(tN S R)[k]? =some b)(hb:b≠.none):k∈R/\∃l,S[k]? =some (.cells l)/\b=.cells (l.map dD):=by
 simp only[tN,o9,af]at h;obtain⟨c,hc,rfl⟩:=h;split at hb
 .rename_i hk;rw[if_pos hk];refine⟨by simpa using hk,?_⟩;cases c with
  |cells l=>exact⟨l,hc,rfl⟩
  |_=>exact absurd rfl hb
 exact absurd rfl hb
theorem y6{S:ai}{k:Nat}{l:List DV}(hk:k∈R)(h:S[k]? =some (.cells l)):(tN S R)[k]? =some (.cells (l.map dD)):=by simp only[tN,o9,h,av,UG,if_pos (show R.contains k=true by simpa using hk)]
theorem jg{S S1:ai}{k:Nat}(hk:k∉R):(lK S S1 R)[k]? =S[k]? :=by simp only[lK,o9,if_neg (show¬R.contains k=true by simpa using hk)];exact Option.map_id'
theorem BA{S S1:ai}{k:Nat}{l l':List DV}(hk:k∈R)(h:S[k]? =some (.cells l))(h1:S1[k]? =some (.cells l')):(lK S S1 R)[k]? =some (.cells (l'.map dD)):=by simp only[lK,o9,h,av,if_pos (show R.contains k=true by simpa using hk),U5,h1]
section
variable (hF:∀b o,x.Fz b o->y.Fz b o/\y.w.cell? ⟨b,o,none⟩=x.w.cell? ⟨b,o,none⟩) (hP:∀i∈R,∃l,y.S[i]? =some (.cells l)/\y.μ i=x.μ i)
include hF hP
theorem Vj{d:DV}{v:Value}(h:RV x d v)(hd:YJ R d.aM=true):RV y d.aM v:=by
 cases d with
 |ptr i off=>
  cases h with
  |ptr _=>obtain⟨l,h1,h2⟩:=hP i (by simpa [YJ,DV.aM]using hd);rw[<-h2];exact .ptr h1
 |_=>exact h.aM.qn hF hd
theorem Nh{d:DV}{v:Value}(h:RV x d v)(hd:MA R (dD d)=true):RV y (dD d) v:=by
 cases d with
 |ptr i off=>
  cases h with
  |ptr _=>obtain⟨l,h1,h2⟩:=hP i (by simpa [MA,dD,DV.aM]using hd);rw[<-h2];exact .ptr h1
 |fn f fs cs=>
  simp only[MA,dD,aA]at hd⊢;cases h with
  |fn h1 h2 h3 h4=>
   refine .fn (by simpa using h1) (by simpa using h2) (λj c hc=>?_) (λj c hc=>?_);.have:=aT.1 hd.1 c (b9 hc);simp only[cR,af]at hc;obtain⟨c',h5,rfl⟩:=hc;exact Vj hF hP (h3 j c' h5) this
   have:=aT.1 hd.2 c (b9 hc);simp only[cR,af]at hc;obtain⟨c',h5,rfl⟩:=hc;exact Vj hF hP (h4 j c' h5) this
 |_=>exact h.aM.qn hF hd
theorem aej{d:DV}{v:Value}(h:RV x d v)(hd:okA R (jG d)=true):RV y (jG d) v:=by
 cases d with
 |ptr i off=>
  cases h with
  |ptr _=>obtain⟨l,h1,h2⟩:=hP i (by simpa [okA,jG,DV.strip,DV.dF]using hd);rw[<-h2];exact .ptr h1
 |fn f fs cs=>exact Nh hF hP h hd
 |_=>exact h.strip.pure_mono hF hd
end
def Cx.yM (x:Cx)(R:List Nat):Cx:={x with S:=tN x.S R}
def Cx.uI (x y:Cx)(R:List Nat):Cx:={w:=y.w,μ:=x.μ,κ:=x.κ,Fz:=y.Fz,S:=lK x.S y.S R}
theorem nu{k:Nat}(h:Live (x.yM R).S k):k∈R/\Live x.S k:=by obtain⟨b,hb,hn⟩:=h;obtain⟨h1,l,h2,-⟩:=qj hb hn;exact⟨h1,_,h2,by simp⟩
theorem WY(hR:Rel x)(hc:∀i∈R,∃l,x.S[i]? =some (.cells l)/\(l.map dD).all (MA R)=true):Rel (x.yM R):=by
 have hP:∀i∈R,∃l,(x.yM R).S[i]? =some (.cells l)/\(x.yM R).μ i=x.μ i:=λi hi=>by obtain⟨l,h,-⟩:=hc i hi;exact⟨_,y6 hi h,rfl⟩
 refine⟨λid l2 h=>?_,λid e s n h=>?_,λid b h hb=>?_,λj k hj hk he=>hR.inj j k (nu hj).2 (nu hk).2 he,hR.As,λid ⟨l,h⟩ o hF=>?_,λid e s n h=>?_,λid e s l z h=>?_⟩;.obtain⟨hi,l,h2,h3⟩:=qj h (by simp);cases h3;obtain⟨l0,h4,h5⟩:=hc id hi;rw[h2]at h4;cases h4;obtain⟨arr,e,h6,h7,h8⟩:=hR.cells id l h2;refine⟨arr,e,h6,by simpa using h7,λj c hj=>?_⟩;have hm:=aT.1 h5 c (b9 hj);simp only[cR,af]at hj;obtain⟨c',h9,rfl⟩:=hj;exact Nh (x:=x) (y:=x.yM R) (λb o h=>⟨h,rfl⟩) hP (h8 j c' h9) hm
 .obtain⟨-,l,-,h3⟩:=qj h (by simp);cases h3
 .obtain⟨-,l,-,h3⟩:=qj h (fE hb);subst h3;cases hb
 .obtain⟨-,l,h2,-⟩:=qj h (by simp);exact hR.sep id ⟨l,h2⟩ o hF
 .obtain⟨-,l,-,h3⟩:=qj h (by simp);cases h3
 obtain⟨-,l,-,h3⟩:=qj h (by simp);cases h3
section
variable (hR:Rel x) (hc:∀i∈R,∃l,x.S[i]? =some (.cells l)/\(l.map dD).all (MA R)=true) (M:bU (x.yM R) y)
include hR M
theorem sF{id:Nat}{b:DB}{o:Obj}(hb:x.S[id]? =some b)(hne:b≠.none)(hid:id∉R)(ho:x.w.heap[x.μ id]? =some o):y.w.heap[x.μ id]? =x.w.heap[x.μ id]? :=by refine M.old _ (aL.1 ho).1 λk hk he=>?_;obtain⟨h1,h2⟩:=nu hk;exact hid (hR.inj k id h2 ⟨b,hb,hne⟩ he▸h1)
omit hR in
include hc in
theorem qp{i:Nat}(hi:i∈R):∃l',y.S[i]? =some (.cells l')/\y.μ i=x.μ i/\(x.uI y R).S[i]? =some (.cells (l'.map dD)):=by obtain⟨l,h,-⟩:=hc i hi;obtain⟨h1,l',h2⟩:=M.cells i _ (y6 hi h);exact⟨l',h2,h1,BA hi h h2⟩
include hc
omit hR in
theorem qm{k:Nat}{b:DB}(h:(x.uI y R).S[k]? =some b):(k∈R/\∃l',y.S[k]? =some (.cells l')/\b=.cells (l'.map dD))\/(k∉R/\x.S[k]? =some b):=by
 by_cases hk:k∈R;.obtain⟨l',h1,-,h3⟩:=qp hc M hk;rw[h3]at h;exact .inl ⟨hk,l',h1,(cB h).symm⟩
 exact .inr ⟨hk,(jg hk).symm.trans h⟩
omit hR in
theorem Bo{k:Nat}(h:Live (x.uI y R).S k):Live x.S k:=by
 obtain⟨b,hb,hne⟩:=h;rcases qm hc M hb with ⟨hk,-⟩|⟨-,h⟩;.obtain⟨l,h,-⟩:=hc k hk;exact⟨_,h,by simp⟩
 exact⟨b,h,hne⟩
theorem Fa:bU x (x.uI y R) where
 size:=M.size
 env:=M.env
 fz:=M.fz
 JM:=λb o h=>(M.JM b o h).imp id λh=>h.imp id λ⟨k,h1,he⟩=>⟨k,(nu h1).2,he⟩
 old:=λb hb hn=>M.old b hb λk hk he=>hn k (nu hk).2 he
 len:=by simp[Cx.uI,lK]
 cells:=λid l2 h=>⟨rfl,by
  by_cases he:id∈R;.obtain⟨l',-,-,h3⟩:=qp hc M he;exact⟨_,h3⟩
  exact⟨l2,(jg he).trans h⟩⟩
 eF:=λid b h hb=>by
  have he:id∉R:=λhe=>by obtain⟨l,h1,-⟩:=hc id he;rw[h1]at h;cases h;cases hb
  obtain⟨o,ho,-⟩:=hR.eF id b h hb;exact⟨rfl,⟨b,(jg he).trans h,eX hb⟩,λ_=>sF hR M h (fE hb) he ho⟩
 dZ:=λt e s n h=>by
  have he:t∉R:=λhe=>by obtain⟨l,h1,-⟩:=hc t he;rw[h1]at h;cases h
  exact⟨n,(jg he).trans h,aj _,λ_=>⟨rfl,rfl⟩⟩
 live:=λk h=>.inl ⟨Bo hc M h,rfl⟩
 ops:=λt e s l z h=>by
  have he:t∉R:=λhe=>by obtain⟨l,h1,-⟩:=hc t he;rw[h1]at h;cases h
  exact⟨l,z,(jg he).trans h,aj _,λe=>⟨rfl,e⟩,λ_=>⟨rfl,rfl⟩⟩
theorem RO(CW:Rel y)(hy:∀i∈R,∃l',y.S[i]? =some (.cells l')/\(l'.map dD).all (MA R)=true):Rel (x.uI y R):=by
 have MB:=Fa hR hc M;have hP:∀i∈R,∃l,(x.uI y R).S[i]? =some (.cells l)/\(x.uI y R).μ i=y.μ i:=λi hi=>by obtain⟨l',-,h2,h3⟩:=qp hc M hi;exact⟨_,h3,h2.symm⟩
 have hF:∀{b o},y.Fz b o->x.Fz b o\/x.w.heap.size<=b\/∃i,i∈R/\Live x.S i/\x.μ i=b:=λ{b o} h=>(M.JM b o h).imp id λh=>h.imp id λ⟨k,h1,he⟩=>⟨k,(nu h1).1,(nu h1).2,he⟩;refine⟨λid l2 h=>?_,λid e s n h=>?_,λid b h hb=>?_,λj k hj hk he=>hR.inj j k (Bo hc M hj) (Bo hc M hk) he,CW.As,λid ⟨l,h⟩ o hf=>?_,λid e s n h o hf=>?_,λid e s l1 z h=>?_⟩
 .rcases qm hc M h with ⟨hi,l',h1,h2⟩|⟨hi,h1⟩;.cases h2;obtain⟨l3,h3,h4⟩:=hy id hi;rw[h1]at h3;cases h3;obtain⟨arr,e,h5,h6,h7⟩:=CW.cells id l' h1;obtain⟨l4,-,h8,-⟩:=qp hc M hi;refine⟨arr,e,by rw[h8]at h5;exact h5,by simpa using h6,λj c hj=>?_⟩;have hm:=aT.1 h4 c (b9 hj);simp only[cR,af]at hj;obtain⟨c',h9,rfl⟩:=hj;exact Nh (x:=y) (y:=x.uI y R) (λb o h=>⟨h,rfl⟩) hP (h7 j c' h9) hm
  obtain⟨arr,e,h3,h4,h5⟩:=hR.cells id l2 h1;exact⟨arr,e,(sF hR M h1 (by simp) hi h3).trans h3,h4,λj c hj=>(h5 j c hj).mono MB⟩
 .rcases qm hc M h with ⟨hi,l',h1,h2⟩|⟨hi,h1⟩;.cases h2
  obtain⟨arr,h3,h4⟩:=hR.dZ id e s n h1;exact⟨arr,(sF hR M h1 (by simp) hi h3).trans h3,h4⟩
 .rcases qm hc M h with ⟨hi,l',h1,h2⟩|⟨hi,h1⟩;.subst h2;cases hb
  obtain⟨o,h3,h4⟩:=hR.eF id b h1 hb;exact⟨o,(sF hR M h1 (fE hb) hi h3).trans h3,h4.mono MB⟩
 .rcases qm hc M h with ⟨hi,l',h1,h2⟩|⟨hi,h1⟩;.obtain⟨l4,-,h8,-⟩:=qp hc M hi;refine CW.sep id ⟨l',h1⟩ o ?_;rw[h8];exact hf
  obtain⟨arr,e,h3,-⟩:=hR.cells id l h1;rcases hF hf with h5|h5|⟨k,h5,h6,h7⟩;.exact hR.sep id ⟨l,h1⟩ o h5
  .have:=(aL.1 h3).1;change x.w.heap.size<=x.μ id at h5;omega
  exact hi (hR.inj k id h6 ⟨_,h1,by simp⟩ h7▸h5)
 .rcases qm hc M h with ⟨hi,l',h1,h2⟩|⟨hi,h1⟩;.cases h2
  obtain⟨arr,h3,-⟩:=hR.dZ id e s n h1;rcases hF hf with h5|h5|⟨k,h5,h6,h7⟩;.exact hR.pL id e s n h1 o h5
  .have:=(aL.1 h3).1;change x.w.heap.size<=x.μ id at h5;omega
  exact absurd (hR.inj k id h6 ⟨_,h1,by simp⟩ h7▸h5) hi
 rcases qm hc M h with ⟨hi,l',h1,h2⟩|⟨hi,h1⟩;.cases h2
 obtain⟨arr,h4,h3,h6,h7,h8,h9,wO⟩:=hR.ops id e s l1 z h1;refine⟨arr,(sF hR M h1 (by simp) hi h4).trans h4,h3,h6,h7,λj c hc=>⟨(h8 j c hc).1,(h8 j c hc).2.mono MB⟩,λhz j hj=>(M.fz _ _ (h9 hz j hj)).1,λhz o hf=>?_⟩;rcases hF hf with h5|h5|⟨k,h5,h6,h7⟩;.exact wO hz o h5
 .have:=(aL.1 h4).1;change x.w.heap.size<=x.μ id at h5;omega
 exact absurd (hR.inj k id h6 ⟨_,h1,by simp⟩ h7▸h5) hi
end
theorem X7{call:bt}(hc:iC P aa call):iC P aa (Pa call):=by
 intro f args S v S' h x vals hR hS ha;subst hS;unfold Pa at h;split at h
 .rename_i R v1 S1 ho;cases h;unfold oB at ho;split at ho
  .rename_i hq;simp only[aA]at hq;obtain⟨⟨-,hA⟩,ov⟩:=hq;split at ho
   .rename_i v2 S2 mh;split at ho
    .rename_i hp;simp only[aA]at hp;cases ho;generalize jH x.S args=R at*;have Dq:∀i∈R,∃l,x.S[i]? =some (.cells l)/\(l.map dD).all (MA R)=true:=λi hi=>LP (aT.1 ov i hi);have ha':iw (x.yM R) (args.map jG) vals:=by refine⟨by simpa using ha.1,λj c hj=>?_⟩;have hm:=aT.1 hA c (b9 hj);simp only[cR,af]at hj;obtain⟨c',h1,rfl⟩:=hj;exact aej (x:=x) (y:=x.yM R) (λb o h=>⟨h,rfl⟩) (λi hi=>by obtain⟨l,h,-⟩:=Dq i hi;exact⟨_,y6 hi h,rfl⟩) (ha.2 j c' h1) hm
     obtain⟨h1,h2⟩:=hc _ _ _ _ _ mh (x.yM R) vals (WY hR Dq) rfl ha';refine⟨h1,λfr cs hn=>h2 fr cs λy u ⟨q1,q2,q3,q4⟩=>?_⟩;subst q1;have hy:∀i∈R,∃l',y.S[i]? =some (.cells l')/\(l'.map dD).all (MA R)=true:=λi hi=>LP (aT.1 hp.2 i hi);exact hn (x.uI y R) u ⟨rfl,RO hR Dq q3 q2 hy,Fa hR Dq q3,q4.strip.pure_mono (x:=y) (y:=x.uI y R) (λb o h=>⟨h,rfl⟩) hp.1⟩
    cases ho
   cases ho
  cases ho
 exact hc _ _ _ _ _ h x vals hR rfl ha
end Go.Di
