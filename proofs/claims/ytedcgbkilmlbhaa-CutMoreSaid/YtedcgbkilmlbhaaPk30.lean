import Derived.Test.YtedcgbkilmlbhaaPk29
import Derived.Orders
namespace Go.Di
open Go Go.Conc Go.Co
open Go.ConcN (sumTo sumTo_upd sumTo_congr le_sumTo upd upd_same upd_ne)
variable {P:Program} {aa:Machine->Trace->Prop} {ty:fR} {x:Cx} {aK:bR} {call:bt} {yf:ej}
def Closed(ops:Array Oper)(L:Nat->Bool):Prop:=∀j o,ops[j]? =some o->L j=true->∀e∈o.after,Region.binds .any e=true->L e.on=true
theorem wW{ops:Array Oper}(rE:∀i o,ops[i]? =some o->∀e∈o.after,Region.binds .any e=true->e.on<i){σ:Type}(T:List Nat->σ->Prop)(J:(Nat->Bool)->σ->Prop)
  (hop:∀L s i o,J L s->Closed ops L->ops[i]? =some o->L i=false->(∀e∈o.after,Region.binds .any e=true->L e.on=true)->∀rest,(∀s',J (upd L i true) s'->T rest s')->T (i::rest) s)
  (uq:∀L s,J L s->(∀i,i<ops.size->L i=true)->T [] s) (t:Nat) (s:σ) (h0:J (λ_=>false) s):T (Region.linearise .any ops t) s:=by
 have key:∀(fuel t:Nat)(listed:Array Bool)(s:σ),listed.size=ops.size->sumTo ops.size (λj=>if listed.getD j true then 0 else 1)=fuel->J (λj=>listed.getD j false) s->Closed ops (λj=>listed.getD j false)->T (Region.linearise.go .any ops fuel t listed []) s:=by
  intro fuel;induction fuel with
  |zero=>
   intro t listed s hsz MH hJ _;refine uq _ s hJ λi hi=>?_;have h1:=le_sumTo (f:=λj=>if listed.getD j true then 0 else 1) hi;rw[MH]at h1;have h2:listed.getD i true=true:=by
    cases h:listed.getD i true with
    |true=>rfl
    |false=>simp[h]at h1
   simpa [ct (show i<listed.size by omega)]using h2
  |succ fuel ih=>
   intro t listed s hsz MH hJ ud;simp only[Region.linearise.go];change T (match(Region.ready .any ops listed)[t % (Region.ready .any ops listed).length]? with
    |some i=>Region.linearise.go .any ops fuel (t/(Region.ready .any ops listed).length) (listed.setIfInBounds i true) [i]
    |none=>[].reverse) s
   cases hi:(Region.ready .any ops listed)[t % (Region.ready .any ops listed).length]? with
   |none=>
    have MJ:Region.ready .any ops listed=[]:=by
     cases hr:Region.ready .any ops listed with
     |nil=>rfl
     |cons x xs=>rw[hr]at hi;have hlt:t % (x::xs).length<(x::xs).length:=Nat.mod_lt _ (by simp);simp at hi;simp at hlt;omega
    refine uq _ s hJ λi hi=>?_;induction i using Nat.strongRecOn with
    |ind i ihi=>
     have Tg:i<listed.size:=by omega
     cases hb:listed.getD i false with
     |true=>rfl
     |false=>
      have mO:i∈Region.ready .any ops listed:=by refine mem_ready.2 ⟨by simpa [ct Tg]using hb,ops[i],ct hi,λe he hbd=>?_⟩;have hlt:=rE i _ (ct hi) e he hbd;exact ihi e.on hlt (by omega)
      rw[MJ]at mO;cases mO
   |some i=>
    simp only[];rw[linearise_go_acc,List.reverse_singleton,List.singleton_append];have mO:=cr hi;obtain⟨hun,o,ho,fL⟩:=mem_ready.1 mO;have hio:i<ops.size:=(aN.1 ho).1;have Tg:i<listed.size:=by omega
    have h2:(λj=>(listed.setIfInBounds i true).getD j false)=upd (λj=>listed.getD j false) i true:=by
     funext j;by_cases gR:j=i;.subst gR;rw[upd_same];simp[kW Tg]
     rw[upd_ne _ _ gR,getD_set_ne false (Ne.symm gR)]
    refine hop _ s i o hJ ud ho (by simpa [ct Tg]using hun) (λe he hb=>fL e he hb) _ λs' hJ'=>ih _ _ s' (by simpa using hsz) ?_ (by rw[h2];exact hJ') ?_
    .have h1:=sumTo_upd (λj=>listed.getD j true) true (λb=>if b then 0 else 1) hio;rw[hun]at h1;simp only[if_true,aI,if_false]at h1;have h2:sumTo ops.size (λj=>if(listed.setIfInBounds i true).getD j true then 0 else 1)=sumTo ops.size λj=>if upd (λj=>listed.getD j true) i true j then 0 else 1:=by
      refine sumTo_congr λj _=>?_;by_cases gR:j=i;.subst gR;rw[upd_same];simp[kW Tg]
      rw[upd_ne _ _ gR,getD_set_ne true (Ne.symm gR)]
     rw[h2];omega
    rw[h2];intro j o' mK hj e he hb;by_cases gR:j=i
    .subst gR;rw[ho]at mK;cases mK;by_cases Ow:e.on=j;.rw[Ow,upd_same]
     rw[upd_ne _ _ Ow];exact fL e he hb
    rw[upd_ne _ _ gR]at hj;by_cases Ow:e.on=i;.rw[Ow,upd_same]
    rw[upd_ne _ _ Ow];exact ud j o' mK hj e he hb
 refine key ops.size t (Array.replicate ops.size false) s (by simp) ?_ ?_ ?_
 .have:∀n,n<=ops.size->sumTo n (λj=>if(Array.replicate ops.size false).getD j true then 0 else 1)=n:=by
   intro n;induction n with
   |zero=>intro _;rfl
   |succ n ih=>intro hn;simp only[sumTo];rw[ih (by omega)];simp[show n<ops.size by omega]
  exact this _ (ak _)
 .have:(λj=>(Array.replicate ops.size false).getD j false)=λ_=>false:=by funext j;simp[bz,Array.getElem?_replicate];split<;>rfl
  rw[this];exact h0
 intro j o _ hj;exfalso
 revert hj
 simp[bz,Array.getElem?_replicate];split<;>simp
theorem vo(ops:Array Oper){L:Nat->Bool}(hL:Closed ops L):∀j i,((Region.before ops).getD j 0).testBit i=true->L j=true->L i=true:=by
 have key:∀(l pre:List Oper)(acc:Array Nat),ops.toList=pre++l->acc.size=pre.length->(∀j i,(acc.getD j 0).testBit i=true->L j=true->L i=true)->
   ∀j i,((l.foldl (λacc (o:Oper)=>acc.push (o.after.foldl (λs e=>if Region.binds .any e then s|||2^e.on|||acc.getD e.on 0 else s) 0)) acc).getD j 0).testBit i=true->L j=true->L i=true:=by
  intro l;induction l with
  |nil=>intro pre acc _ _ h;exact h
  |cons o l ih=>
   intro pre acc HU hsz h;simp only[gp];refine ih (pre++[o]) _ (by rw[HU];simp) (by simp[hsz]) λj i ht hj=>?_;have ho:ops[pre.length]? =some o:=by rw[<-kV,HU];simp
   by_cases hjs:j<acc.size;.refine h j i ?_ hj;rw[bz,Array.getElem?_push_lt hjs]at ht;rw[bz,ct hjs];exact ht
   by_cases hje:j=acc.size
   .subst hje;rw[bz,Array.getElem?_push_size,kU]at ht;rw[hsz]at hj;have fL:=hL _ _ ho hj;have fold:∀(es:List Edge)(s:Nat),(∀e∈es,e∈o.after)->(s.testBit i=true->L i=true)->(es.foldl (λs e=>if Region.binds .any e then s|||2^e.on|||acc.getD e.on 0 else s) s).testBit i=true->L i=true:=by
     intro es;induction es with
     |nil=>intro s _ hs ht;exact hs ht
     |cons e es ihe=>
      intro s he hs ht;simp only[gp]at ht;refine ihe _ (λe' h'=>he e' (by simp[h'])) (λhb=>?_) ht;split at hb
      .rename_i hbd;simp only[Nat.testBit_or,gY,Nat.testBit_two_pow,cq]at hb;rcases hb with (hb|hb)|hb;.exact hs hb
       .rw[<-hb];exact fL e (he e (by simp)) hbd
       exact h _ _ hb (fL e (he e (by simp)) hbd)
      exact hs hb
    rw[<-y9]at ht;exact fold o.after.toList 0 (by simp) (by simp) ht
   rw[bz,mD (by simp;omega)]at ht;simp at ht
 intro j i;unfold Region.before;rw[<-y9];exact key ops.toList [] #[] rfl rfl (by simp) j i
theorem nk{ρ ρ':Operand->Option DV}:∀{l:List Operand},(∀a∈l,ρ a=ρ' a)->evs ρ l=evs ρ' l
 |[],_=>rfl
 |a::l,h=>by unfold evs;rw[h a (by simp),nk λb hb=>h b (by simp[hb])]
theorem u7{ρ ρ':Operand->Option DV}:∀{l:List (Nat×Operand)},(∀a∈l.map (·.2),ρ a=ρ' a)->kE ρ l=kE ρ' l
 |[],_=>rfl
 |(i,a)::l,h=>by unfold kE;rw[h a (by simp),u7 λb hb=>h b (by simp at hb⊢;exact .inr hb)]
theorem vn{ρ ρ':Operand->Option DV}{a:Option Operand}{d m:Nat}(h:∀b∈a.toArray,ρ b=ρ' b):iq ρ a d m=iq ρ' a d m:=by
 cases a with
 |none=>rfl
 |some b=>simp only[iq,intOf,h b (by simp)]
theorem zT{ρ ρ':Operand->Option DV}{o:Oper}{S:ai}{aF:Nat}(h:∀a∈o.op.operands,ρ a=ρ' a):ah P ty aK call yf ρ o S aF=ah P ty aK call yf ρ' o S aF:=by
 obtain⟨dst,op,type,pos,after,guard⟩:=o;cases op<;>simp only[Op.operands,Call.operands]at h<;>try rfl
 case move a=>simp only[ah,h a (by simp)]
 case assign a=>simp only[ah,h a (by simp)]
 case pick a b c=>simp only[ah,h a (by simp),h b (by simp),h c (by simp)]
 case box t a=>simp only[ah,h a (by simp)]
 case build t ps=>
  have:=u7 (ρ:=ρ) (ρ':=ρ') (l:=ps.toList) λa ha=>h a (by simpa using ha);simp only[ah,this]
 case buildSlice t n ps=>
  have:=u7 (ρ:=ρ) (ρ':=ρ') (l:=ps.toList) λa ha=>h a (by simpa using ha);simp only[ah,this]
 case makeSlice t a b=>simp only[ah,intOf,h a (by simp),h b (by simp)]
 case load t a=>simp only[ah,h a (by simp)]
 case store t a v=>simp only[ah,h a (by simp),h v (by simp)]
 case nilCheck a=>simp only[ah,h a (by simp)]
 case binOp op t a b u=>simp only[ah,valOf,h a (by simp),h b (by simp)]
 case unOp op t a=>simp only[ah,valOf,h a (by simp)]
 case convert s d a=>simp only[ah,valOf,h a (by simp)]
 case makeFunc fn fs cs=>
  cases fn with
  |func f=>simp only[ah,nk (ρ:=ρ) (ρ':=ρ') (l:=fs.toList) λa ha=>h a (by simp at ha⊢;exact .inl ha),nk (ρ:=ρ) (ρ':=ρ') (l:=cs.toList) λa ha=>h a (by simp at ha⊢;exact .inr ha)]
  |_=>rfl
 case makeMap t r=>cases r<;>rfl
 case slice t a lo hi mx=>
  have h1:ρ a=ρ' a:=h a (by simp);have h2:=λd m=>vn (ρ:=ρ) (ρ':=ρ') (a:=lo) (d:=d) (m:=m) λb hb=>h b (by simp at hb⊢;simp[hb]);have h3:=λd m=>vn (ρ:=ρ) (ρ':=ρ') (a:=hi) (d:=d) (m:=m) λb hb=>h b (by simp at hb⊢;simp[hb]);have h4:=λd m=>vn (ρ:=ρ) (ρ':=ρ') (a:=mx) (d:=d) (m:=m) λb hb=>h b (by simp at hb⊢;simp[hb]);simp only[ah,h1,h2,h3,h4]
 case fieldAddr t a f=>simp only[ah,h a (by simp)]
 case field t a f=>simp only[ah,h a (by simp)]
 case indexAddr t a i=>simp only[ah,intOf,h a (by simp),h i (by simp)]
 case index t a i=>simp only[ah,intOf,h a (by simp),h i (by simp)]
 case lookup t a i ok=>simp only[ah,valOf,h a (by simp),h i (by simp)]
 case mapUpdate t m k v=>simp only[ah,valOf,h m (by simp),h k (by simp),h v (by simp)]
 case extract a i=>simp only[ah,h a (by simp)]
 case call c=>
  obtain⟨callee,args,ats⟩:=c;cases callee with
  |builtin b=>
   simp only[Array.empty_append]at h;have h1:∀a∈args.toList,ρ a=ρ' a:=λa ha=>h a (by simpa using ha);have h2:=nk h1;simp only[ah];generalize args.toList=l at h1 h2;generalize ats.toList=m;cases b<;>try rfl
   .match l,m with
    |[a,c],[t,u]=>simp only[h1 a (by simp),h1 c (by simp)]
    |[],_=>rfl
    |[_],_=>rfl
    |_::_::_::_,_=>rfl
    |[_,_],[]=>rfl
    |[_,_],[_]=>rfl
    |[_,_],_::_::_::_=>rfl
   .match l,m with
    |[a],[t]=>simp only[h1 a (by simp)]
    |[],_=>rfl
    |_::_::_,_=>rfl
    |[_],[]=>rfl
    |[_],_::_::_=>rfl
   .simp only[h2]
   simp only[h2]
  |value f=>have h1:ρ f=ρ' f:=h f (by simp);have h2:=nk (ρ:=ρ) (ρ':=ρ') (l:=args.toList) λa ha=>h a (by simp at ha⊢;exact .inr ha);simp only[ah,h1,h2]
  |invoke r m=>rfl
end Go.Di
namespace Go.Di
open Go Go.Conc Go.Co
open Go.ConcN (sumTo sumTo_upd sumTo_congr le_sumTo upd upd_same upd_ne)
variable {P:Program} {aa:Machine->Trace->Prop} {ty:fR} {x:Cx} {aK:bR} {call:bt} {yf:ej}
def Km(ops:Array Oper):Prop:=∀i o,ops[i]? =some o->∀e∈o.after,Region.binds .any e=true->e.on<i
theorem Hv{ops:Array Oper}(rE:Km ops){i j:Nat}(hne:i≠j)(h:((Region.before ops).getD j 0).testBit i=true):i<j:=by
 have ud:Closed ops λk=>decide (k<=j):=by intro k o ho hk e he hb;have:=rE k o ho e he hb;simp only[cq]at hk⊢;omega
 have:=vo ops ud j i h (by simp);simp only[cq]at this;omega
theorem Py{ops:Array Oper}(rE:Km ops){L:Nat->Bool}(hL:Closed ops L){i j:Nat}{o:Oper}(ho:ops[i]? =some o)(hi:L i=false)(yo:∀e∈o.after,Region.binds .any e=true->L e.on=true)(hne:i≠j)
  (h:((Region.before ops).getD j 0).testBit i=true\/((Region.before ops).getD i 0).testBit j=true):L j=true↔j<i:=by
 rcases h with h|h;· have h1:=Hv rE hne h;refine⟨λhj=>?_,λhj=>by omega⟩;have:=vo ops hL j i h hj;rw[hi]at this;cases this
 have h1:=Hv rE (Ne.symm hne) h;refine⟨λ_=>h1,λ_=>?_⟩;have ud:Closed ops (upd L i true):=by
  intro k o' mK hk e he hb;by_cases SJ:k=i
  .subst SJ;rw[ho]at mK;cases mK;by_cases Ow:e.on=k;· rw[Ow,upd_same]
   rw[upd_ne _ _ Ow];exact yo e he hb
  rw[upd_ne _ _ SJ]at hk;by_cases Ow:e.on=i;· rw[Ow,upd_same]
  rw[upd_ne _ _ Ow];exact hL k o' mK hk e he hb
 have:=vo ops ud i j h (upd_same _ _ _)
 rwa [upd_ne _ _ (Ne.symm hne)]at this
def qx(ops:Array Oper)(j:Nat)(t:Tmp):Bool:=match ops[j]? with
 |some o=>o.dst==some t
 |none=>false
def nS(ops:Array Oper)(V:Nat->DV)(L:Nat->Bool)(t:Tmp):Nat->Option DV
 |0=>none
 |n+1=>if L n&&qx ops n t then some (V n)else nS ops V L t n
theorem lQ{ops:Array Oper}{V:Nat->DV}{L:Nat->Bool}{t:Tmp}{i:Nat}:∀{n:Nat},i<=n->(∀j,j<n->qx ops j t=true->(L j=true↔j<i))->nS ops V L t n=nS ops V (λ_=>true) t i
 |0,h,_=>by
  have:i=0:=by omega
  subst this;rfl
 |n+1,h,hj=>by
  by_cases o7:i=n+1
  .subst o7;unfold nS;by_cases hd:qx ops n t=true;· have:=(hj n (by omega) hd).2 (by omega);simp only[this,hd,fT,if_true]
   simp only[aC,hd,and_false,if_false,aI];exact lQ (ak _) λj h1 h2=>⟨λ_=>h1,λ_=>(hj j (qI h1) h2).2 (qI h1)⟩
  have hle:i<=n:=by omega
  rw[<-lQ hle λj h1 h2=>hj j (by omega) h2]
  conv=>lhs;unfold nS
  by_cases hd:qx ops n t=true
  .have:L n=false:=by
    cases hLn:L n with
    |false=>rfl
    |true=>have:=(hj n (by omega) hd).1 hLn;omega
   rw[this];simp
  simp[hd]
theorem B1{ops:Array Oper}{V:Nat->DV}{L:Nat->Bool}{t:Tmp}{i:Nat}(hd:qx ops i t=false):∀n,nS ops V (upd L i true) t n=nS ops V L t n
 |0=>rfl
 |n+1=>by
  unfold nS;rw[B1 hd n];by_cases h:n=i;· subst h;simp[hd]
  rw[upd_ne _ _ h]
def Gn(ops:Array Oper)(V:Nat->DV)(L:Nat->Bool)(n:Nat)(aic env:List DV):Prop:=∀t,env[t]? =(aic[t]?).map λd=>(nS ops V L t n).getD d
theorem KT(env:List DV)(dst:Option Tmp)(v:DV)(t:Tmp):(ku env dst v)[t]? =if dst=some t then(env[t]?).map λ_=>v else env[t]? :=by
 cases dst with
 |none=>simp[ku]
 |some d=>
  simp only[ku,aH,aB];by_cases h:d=t
  .subst h;by_cases hl:d<env.length;· simp[hl]
   simp[hl]
  simp[h]
def OV(ops:Array Oper)(V:Nat->DV)(E:Nat->List DV):Prop:=∀j o,ops[j]? =some o->E (j+1)=ku (E j) o.dst (V j)
theorem CO{ops:Array Oper}{V:Nat->DV}{E:Nat->List DV}(h:OV ops V E):∀i,i<=ops.size->Gn ops V (λ_=>true) i (E 0) (E i)
 |0,_=>λt=>by simp[nS]
 |i+1,hi=>λt=>by
  have ho:ops[i]? =some ops[i]:=ct (by omega);have ih:=CO h i (by omega) t;rw[h i _ ho,KT];unfold nS;have hd:qx ops i t=(ops[i].dst==some t):=by unfold qx;rw[ho]
  by_cases YG:ops[i].dst=some t;· simp only[YG,if_true,hd,oW,fT,kU,ih,qG];rfl
  have:(ops[i].dst==some t)=false:=by simpa using YG
  simp only[YG,if_false,hd,this,oU,aI];exact ih
theorem Hp{ops:Array Oper}{V:Nat->DV}{E:Nat->List DV}{L:Nat->Bool}{env:List DV}{i:Nat}{o:Oper}(ho:ops[i]? =some o)(hE:Gn ops V L ops.size (E 0) env)
  (agw:∀t,o.dst=some t->∀j,j<ops.size->qx ops j t=true->(upd L i true j=true↔j<i+1)):Gn ops V (upd L i true) ops.size (E 0) (ku env o.dst (V i)):=by
 intro t;have hi:i<ops.size:=(aN.1 ho).1;rw[KT];have hd:qx ops i t=(o.dst==some t):=by unfold qx;rw[ho]
 by_cases YG:o.dst=some t
 .have e:nS ops V (λ_=>true) t (i+1)=some (V i):=by unfold nS;simp[hd,YG]
  rw[if_pos YG,lQ (i:=i+1) (by omega) (agw t YG),hE t,e];simp[Function.comp_def]
 have h2:qx ops i t=false:=by rw[hd];simpa using YG
 rw[if_neg YG,B1 h2];exact hE t
theorem BW{ops:Array Oper}(rE:Km ops)(HF:mg ops (Region.before ops)=true){V:Nat->DV}{E:Nat->List DV}(hS:OV ops V E){L:Nat->Bool}(hL:Closed ops L){env:List DV}(hE:Gn ops V L ops.size (E 0) env){i:Nat}{o:Oper}(ho:ops[i]? =some o)(hi:L i=false)
  (yo:∀e∈o.after,Region.binds .any e=true->L e.on=true):(∀t∈mj ops o,env[t]? =(E i)[t]?)/\∀t,o.dst=some t->∀j,j<ops.size->qx ops j t=true->(upd L i true j=true↔j<i+1):=by
 have hio:i<ops.size:=(aN.1 ho).1;have hx:∀t∈mj ops o,∀j,j<ops.size->j≠i->qx ops j t=true->(L j=true↔j<i):=by
  intro t ht j hj hne hd;have hoj:ops[j]? =some ops[j]:=ct hj;have SL:ops[j].dst=some t:=by unfold qx at hd;rw[hoj]at hd;simpa using hd
  refine Py rE hL ho hi yo (Ne.symm hne) ?_;unfold mg at HF;simp only[aC,aX]at HF;have h1:=HF.2 (o,i) (by rw[vR];simpa using ho) (ops[j],j) (by rw[vR];simp);simp only[SL]at h1;have hc:(mj ops o).contains t=true:=by simpa using ht
  simp only[hc,gn,Bool.or_false,gY,dX]at h1;rcases h1 with (h1|h1)|h1;· exact absurd h1.symm hne
  .exact .inl h1
  exact .inr h1
 constructor
 .intro t ht;rw[hE t,CO hS i (by omega) t];congr 1;funext d;rw[lQ (i:=i) (by omega) λj hj hd=>?_];by_cases gR:j=i;· subst gR;simp[hi]
  exact hx t ht j hj gR hd
 intro t ht j hj hd;by_cases gR:j=i;· subst gR;simp[upd_same]
 rw[upd_ne _ _ gR,hx t (by simp[mj,ht]) j hj gR hd];omega
theorem Hl{ops:Array Oper}{o:Oper}{env aL:List DV}(h:∀t∈mj ops o,env[t]? =aL[t]?):∀a∈o.op.operands,jr env a=jr aL a:=by
 intro a ha;cases a with
 |tmp t=>
  have:t∈mj ops o:=by
   unfold mj;simp only[eY];left;right
   rw[C1];exact⟨.tmp t,by simpa using ha,rfl⟩
  simp only[jr,aP,h t this]
 |_=>rfl
theorem zL{ops:Array Oper}{o:Oper}{env aL:List DV}(h:∀t∈mj ops o,env[t]? =aL[t]?):cD ops env o=cD ops aL o:=by
 unfold cD;cases hg:o.guard with
 |none=>rfl
 |some g=>
  obtain⟨j,want⟩:=g;simp only;cases hb:(ops[j]?).bind (·.dst)with
  |none=>rfl
  |some t=>
   have:t∈mj ops o:=by unfold mj;rw[hg];simp[hb]
   simp only[h t this]
theorem KY{ops:Array Oper}(h:mg ops (Region.before ops)=true):Km ops:=by intro i o ho e he hb;unfold mg at h;simp only[aC,aX,Array.all_eq_true']at h;have h1:=h.1 (o,i) (by rw[vR];simpa using ho) e he;simpa [hb]using h1
theorem KI{ops:Array Oper}{S:ai}:∀{r:List Oper}{env aL:List DV},qU P ty aK call yf ops S r env=some aL->∃(E:Nat->List DV)(V:Nat->DV),E 0=env/\E r.length=aL/\
  ∀j o,r[j]? =some o->E (j+1)=ku (E j) o.dst (V j)/\(cD ops (E j) o=true->dD P ty aK call yf (jr (E j)) o S=some (V j))/\(cD ops (E j) o=false->V j=bF)
 |[],env,aL,h=>by simp only[qU,aB]at h;exact⟨λ_=>env,λ_=>bF,rfl,h,by simp⟩
 |o::r,env,aL,h=>by
  unfold qU at h;have key:∀v,qU P ty aK call yf ops S r (ku env o.dst v)=some aL->(cD ops env o=true->dD P ty aK call yf (jr env) o S=some v)->(cD ops env o=false->v=bF)->∃(E:Nat->List DV)(V:Nat->DV),E 0=env/\E (o::r).length=aL/\
    ∀j o',(o::r)[j]? =some o'->E (j+1)=ku (E j) o'.dst (V j)/\(cD ops (E j) o'=true->dD P ty aK call yf (jr (E j)) o' S=some (V j))/\(cD ops (E j) o'=false->V j=bF):=λv h1 h2 h3=>by
   obtain⟨E,V,e1,e2,e3⟩:=KI h1;refine⟨λn=>match n with|0=>env|n+1=>E n,λn=>match n with|0=>v|n+1=>V n,rfl,by simpa using e2,λj o' mK=>?_⟩;cases j with
   |zero=>simp only[bY,aB]at mK;subst mK;exact⟨e1,h2,h3⟩
   |succ j=>exact e3 j o' (by simpa using mK)
  split at h
  .rename_i hw;split at h;· rename_i v h1;exact key v h (λ_=>h1) λhf=>by rw[hw]at hf;cases hf
   cases h
  rename_i hw;exact key bF h (λht=>absurd ht hw) λ_=>rfl
theorem quiet_step{ρ:Operand->Option DV}{o:Oper}{S:ai}{v:DV}(h:dD P ty aK call yf ρ o S=some v):ah P ty aK call yf ρ o S S.length=some (v,S):=by
 obtain⟨dst,op,type,pos,after,guard⟩:=o;have gen:∀{q:Option (DV×ai)},q.map (·.1)=some v->(∀d S',q=some (d,S')->S'=S)->q=some (v,S):=by intro q hq hs;simp only[af]at hq;obtain⟨⟨d,S'⟩,h1,rfl⟩:=hq;rw[h1,hs d S' h1]
 have mp:∀{β:Type}{q:Option β}{f:β->DV}{d:DV}{S':ai},q.map (λc=>(f c,S))=some (d,S')->S'=S:=by intro β q f d S' hq;simp only[af,az]at hq;obtain⟨_,_,_,h⟩:=hq;exact h.symm
 cases op<;>simp only[dD]at h
 case call c=>
  obtain⟨callee,args,ats⟩:=c;cases callee with
  |builtin b=>
   cases b<;>simp only at h<;>first|cases h|skip
   all_goals
     refine gen h λd S' hq=>?_;simp only[ah]at hq
     repeat' split at hq
     all_goals first|contradiction|exact mp (f:=id) hq|exact mp hq|(cases hq;rfl)|(cases hq;done)|skip
  |value f=>
   simp only at h;split at h
   . rename_i g fs cs xs hf Qy;split at h;· cases h
     rename_i hh;split at h;· rename_i hp;simp only[ah,hf,Qy,wO,hp,if_true,h]
     cases h
   cases h
  |invoke r m=>simp[ah]at h
 case buildSlice t n ps=>
  split at h;· cases h
  rename_i hh;refine gen h λd S' hq=>?_;simp only[ah]at hq
  repeat' split at hq
  all_goals first|contradiction|(cases hq;first|rfl|contradiction)
 all_goals first
  |cases h
  |(refine gen h λd S' hq=>?_;simp only[ah]at hq;repeat' split at hq
    all_goals first|contradiction|exact mp (f:=id) hq|exact mp hq|(cases hq;rfl)|(cases hq;done)|skip)
theorem LV{ρ ρ':Operand->Option DV}{o:Oper}{S:ai}(h:∀a∈o.op.operands,ρ a=ρ' a):dD P ty aK call yf ρ o S=dD P ty aK call yf ρ' o S:=by
 have hs:=zT (P:=P) (ty:=ty) (aK:=aK) (call:=call) (yf:=yf) (S:=S) (aF:=S.length) h;unfold dD;split<;>try rfl
 .rw[hs]
 .rename_i f args ats hop;rw[hop]at h;have h1:ρ f=ρ' f:=h f (by simp[Op.operands,Call.operands]);have h2:=nk (ρ:=ρ) (ρ':=ρ') (l:=args.toList) λa ha=>h a (by simp[Op.operands,Call.operands]at ha⊢;exact .inr ha);rw[h1,h2]
 rw[hs]
theorem NK(hP:Plain P)(fu:kC P ty)(hc:ir P aa call)(hi:BJ P aa aK)(CI:BH P aa yf){ops:Array Oper}{b:Frame}{k:List Item}{cs:List Frame}(hk:b.kind≠.early)(HF:mg ops (Region.before ops)=true)
  {env aL:List DV} {a:Act} (h:qU P ty aK call yf ops x.S ops.toList env=some aL) (hR:Rel x) (he:ia x env a.tmps)
  (hn:∀y a',y.S=x.S->Rel y->bV x y->ia y aL a'.tmps->a'.defers=a.defers->jf P aa () (G (b.atR a' k) cs) y.w) (t:Nat):jf P aa () (G (b.atR a (.inRegion ops (Region.linearise .any ops t)::k)) cs) x.w:=by
 have rE:=KY HF;obtain⟨E,V,e1,e2,e3⟩:=KI h;have HU:∀(j:Nat)(o:Oper),ops[j]? =some o->ops.toList[j]? =some o:=λj o ho=>by simpa using ho
 have hS:OV ops V E:=λj o ho=>(e3 j o (HU j o ho)).1;refine wW rE (σ:=Act×Cx) (λtodo s=>s.2.S=x.S->Rel s.2->bV x s.2->s.1.defers=a.defers->jf P aa () (G (b.atR s.1 (.inRegion ops todo::k)) cs) s.2.w)
  (λL s=>∃qo,ia s.2 qo s.1.tmps/\Gn ops V L ops.size (E 0) qo) ?_ ?_ t (a,x) ⟨env,he,λt=>?_⟩ rfl hR (bV.refl x) rfl
 .rintro L ⟨a1,y⟩ i o ⟨qo,ye,YK⟩ ud ho SP yo rest Dm hSy Db Ts Mt;simp only at ye hSy Db Ts Mt⊢;obtain⟨q1,q2⟩:=BW rE HF hS ud YK ho SP yo;have hw:=zL q1;have X6:=AH ye ops o;have hE2:=Hp (V:=V) ho YK q2;by_cases hwt:cD ops (E i) o=true;· have hq:=(e3 i o (HU i o ho)).2.1 hwt;rw[<-LV (Hl q1),<-hSy]at hq;refine Ur hP fu hc hi CI hk ho (by rw[X6,hw];exact hwt) Db (.inl rfl) ye (quiet_step hq) λz u zS zR zM zV=>?_;have pH:=Au (ye.mono zM) (dst:=o.dst) zV;exact Dm (a1.put o.dst u,z) ⟨_,pH.1,hE2⟩ (zS.trans hSy) zR (Ts.trans zM) (pH.2.trans Mt)
  have hwf:cD ops (E i) o=false:=by simpa using hwt
  have hv:=(e3 i o (HU i o ho)).2.2 hwf;have pH:=Au ye (dst:=o.dst) (d:=V i) (v:=undef) (by rw[hv];exact .val rfl);exact gd hP (λw=>⟨_,u6 ho (by rw[X6,hw];exact hwf)⟩) (Dm (a1.put o.dst undef,y) ⟨_,pH.1,hE2⟩ hSy Db Ts (pH.2.trans Mt))
 .rintro L ⟨a1,y⟩ ⟨qo,ye,YK⟩ fL hSy Db Ts Mt;have:qo=aL:=by
   refine mA λt=>?_;have hlen:E ops.size=aL:=by simpa using e2
   rw[YK t,<-hlen,CO hS ops.size (ak _) t];congr 1;funext d;rw[lQ (i:=ops.size) (ak _) λj hj _=>by simp[fL j hj,hj]]
  subst this;exact gd hP (λw=>⟨_,ry⟩) (hn y a1 hSy Db Ts ye Mt)
 rw[e1];have:∀n,nS ops V (λ_=>false) t n=none:=by
  intro n;induction n with
  |zero=>rfl
  |succ n ih=>unfold nS;simp[ih]
 rw[this];simp
end Go.Di
namespace Go.Di
open Go Go.Conc Go.Co
variable {P:Program} {aa:Machine->Trace->Prop} {x y:Cx} {R:List Nat} {T:ai}
theorem Lr{S:ai}{i:Nat}(h:kS S R i=true):∃l,S[i]? =some (.cells l)/\(l.map dz).all (Ml R)=true:=by
 unfold kS at h;split at h;.rename_i l hl;exact⟨l,hl,h⟩
 cases h
theorem qf{S:ai}{k:Nat}{b:DB}(h:(tI S R)[k]? =some b)(hb:b≠.none):k∈R/\∃l,S[k]? =some (.cells l)/\b=.cells (l.map dz):=by
 simp only[tI,o5,af]at h;obtain⟨c,hc,rfl⟩:=h;split at hb
 .rename_i hk;rw[if_pos hk];refine⟨by simpa using hk,?_⟩;cases c with
  |cells l=>exact⟨l,hc,rfl⟩
  |_=>exact absurd rfl hb
 exact absurd rfl hb
theorem yP{S:ai}{k:Nat}{l:List DV}(hk:k∈R)(h:S[k]? =some (.cells l)):(tI S R)[k]? =some (.cells (l.map dz)):=by simp only[tI,o5,h,ay,Us,if_pos (show R.contains k=true by simpa using hk)]
theorem iX{S S1:ai}{k:Nat}(hk:k∉R):(lH S S1 R)[k]? =S[k]? :=by simp only[lH,o5,if_neg (show¬R.contains k=true by simpa using hk)];exact Option.map_id'
theorem Bh{S S1:ai}{k:Nat}{l l':List DV}(hk:k∈R)(h:S[k]? =some (.cells l))(h1:S1[k]? =some (.cells l')):(lH S S1 R)[k]? =some (.cells (l'.map dz)):=by simp only[lH,o5,h,ay,if_pos (show R.contains k=true by simpa using hk),UM,h1]
section
variable (hF:∀b o,x.Fz b o->y.Fz b o/\y.w.cell? ⟨b,o,none⟩=x.w.cell? ⟨b,o,none⟩) (hP:∀i∈R,∃l,y.S[i]? =some (.cells l)/\y.μ i=x.μ i)
include hF hP
theorem U7{d:DV}{v:Value}(h:RV x d v)(hd:Yz R d.aO=true):RV y d.aO v:=by
 cases d with
 |ptr i off=>
  cases h with
  |ptr _=>obtain⟨l,h1,h2⟩:=hP i (by simpa [Yz,DV.aO]using hd);rw[<-h2];exact .ptr h1
 |_=>exact h.aO.nv hF hd
theorem M0{d:DV}{v:Value}(h:RV x d v)(hd:Ml R (dz d)=true):RV y (dz d) v:=by
 cases d with
 |ptr i off=>
  cases h with
  |ptr _=>obtain⟨l,h1,h2⟩:=hP i (by simpa [Ml,dz,DV.aO]using hd);rw[<-h2];exact .ptr h1
 |fn f fs cs=>
  simp only[Ml,dz,aC]at hd⊢;cases h with
  |fn h1 h2 h3 h4=>
   refine .fn (by simpa using h1) (by simpa using h2) (λj c hc=>?_) (λj c hc=>?_);.have:=aX.1 hd.1 c (cr hc);simp only[cM,af]at hc;obtain⟨c',h5,rfl⟩:=hc;exact U7 hF hP (h3 j c' h5) this
   have:=aX.1 hd.2 c (cr hc);simp only[cM,af]at hc;obtain⟨c',h5,rfl⟩:=hc;exact U7 hF hP (h4 j c' h5) this
 |_=>exact h.aO.nv hF hd
theorem aec{d:DV}{v:Value}(h:RV x d v)(hd:okA R (jB d)=true):RV y (jB d) v:=by
 cases d with
 |ptr i off=>
  cases h with
  |ptr _=>obtain⟨l,h1,h2⟩:=hP i (by simpa [okA,jB,DV.strip,DV.dA]using hd);rw[<-h2];exact .ptr h1
 |fn f fs cs=>exact M0 hF hP h hd
 |_=>exact h.strip.pure_mono hF hd
end
def Cx.yC (x:Cx)(R:List Nat):Cx:={x with S:=tI x.S R}
def Cx.uC (x y:Cx)(R:List Nat):Cx:={w:=y.w,μ:=x.μ,κ:=x.κ,Fz:=y.Fz,S:=lH x.S y.S R}
theorem ni{k:Nat}(h:Live (x.yC R).S k):k∈R/\Live x.S k:=by obtain⟨b,hb,hn⟩:=h;obtain⟨h1,l,h2,-⟩:=qf hb hn;exact⟨h1,_,h2,by simp⟩
theorem WA(hR:Rel x)(hc:∀i∈R,∃l,x.S[i]? =some (.cells l)/\(l.map dz).all (Ml R)=true):Rel (x.yC R):=by
 have hP:∀i∈R,∃l,(x.yC R).S[i]? =some (.cells l)/\(x.yC R).μ i=x.μ i:=λi hi=>by obtain⟨l,h,-⟩:=hc i hi;exact⟨_,yP hi h,rfl⟩
 refine⟨λid l2 h=>?_,λid e s n h=>?_,λid b h hb=>?_,λj k hj hk he=>hR.inj j k (ni hj).2 (ni hk).2 he,hR.Ae,λid ⟨l,h⟩ o hF=>?_,λid e s n h=>?_,λid e s l z h=>?_⟩;.obtain⟨hi,l,h2,h3⟩:=qf h (by simp);cases h3;obtain⟨l0,h4,h5⟩:=hc id hi;rw[h2]at h4;cases h4;obtain⟨arr,e,h6,h7,h8⟩:=hR.cells id l h2;refine⟨arr,e,h6,by simpa using h7,λj c hj=>?_⟩;have hm:=aX.1 h5 c (cr hj);simp only[cM,af]at hj;obtain⟨c',h9,rfl⟩:=hj;exact M0 (x:=x) (y:=x.yC R) (λb o h=>⟨h,rfl⟩) hP (h8 j c' h9) hm
 .obtain⟨-,l,-,h3⟩:=qf h (by simp);cases h3
 .obtain⟨-,l,-,h3⟩:=qf h (fo hb);subst h3;cases hb
 .obtain⟨-,l,h2,-⟩:=qf h (by simp);exact hR.sep id ⟨l,h2⟩ o hF
 .obtain⟨-,l,-,h3⟩:=qf h (by simp);cases h3
 obtain⟨-,l,-,h3⟩:=qf h (by simp);cases h3
section
variable (hR:Rel x) (hc:∀i∈R,∃l,x.S[i]? =some (.cells l)/\(l.map dz).all (Ml R)=true) (M:bV (x.yC R) y)
include hR M
theorem rY{id:Nat}{b:DB}{o:Obj}(hb:x.S[id]? =some b)(hne:b≠.none)(hid:id∉R)(ho:x.w.heap[x.μ id]? =some o):y.w.heap[x.μ id]? =x.w.heap[x.μ id]? :=by refine M.old _ (aN.1 ho).1 λk hk he=>?_;obtain⟨h1,h2⟩:=ni hk;exact hid (hR.inj k id h2 ⟨b,hb,hne⟩ he▸h1)
omit hR in
include hc in
theorem qj{i:Nat}(hi:i∈R):∃l',y.S[i]? =some (.cells l')/\y.μ i=x.μ i/\(x.uC y R).S[i]? =some (.cells (l'.map dz)):=by obtain⟨l,h,-⟩:=hc i hi;obtain⟨h1,l',h2⟩:=M.cells i _ (yP hi h);exact⟨l',h2,h1,Bh hi h h2⟩
include hc
omit hR in
theorem qh{k:Nat}{b:DB}(h:(x.uC y R).S[k]? =some b):(k∈R/\∃l',y.S[k]? =some (.cells l')/\b=.cells (l'.map dz))\/(k∉R/\x.S[k]? =some b):=by
 by_cases hk:k∈R;.obtain⟨l',h1,-,h3⟩:=qj hc M hk;rw[h3]at h;exact .inl ⟨hk,l',h1,(cA h).symm⟩
 exact .inr ⟨hk,(iX hk).symm.trans h⟩
omit hR in
theorem A6{k:Nat}(h:Live (x.uC y R).S k):Live x.S k:=by
 obtain⟨b,hb,hne⟩:=h;rcases qh hc M hb with ⟨hk,-⟩|⟨-,h⟩;.obtain⟨l,h,-⟩:=hc k hk;exact⟨_,h,by simp⟩
 exact⟨b,h,hne⟩
theorem EX:bV x (x.uC y R) where
 size:=M.size
 env:=M.env
 fz:=M.fz
 JA:=λb o h=>(M.JA b o h).imp id λh=>h.imp id λ⟨k,h1,he⟩=>⟨k,(ni h1).2,he⟩
 old:=λb hb hn=>M.old b hb λk hk he=>hn k (ni hk).2 he
 len:=by simp[Cx.uC,lH]
 cells:=λid l2 h=>⟨rfl,by
  by_cases he:id∈R;.obtain⟨l',-,-,h3⟩:=qj hc M he;exact⟨_,h3⟩
  exact⟨l2,(iX he).trans h⟩⟩
 eC:=λid b h hb=>by
  have he:id∉R:=λhe=>by obtain⟨l,h1,-⟩:=hc id he;rw[h1]at h;cases h;cases hb
  obtain⟨o,ho,-⟩:=hR.eC id b h hb;exact⟨rfl,⟨b,(iX he).trans h,eV hb⟩,λ_=>rY hR M h (fo hb) he ho⟩
 dR:=λt e s n h=>by
  have he:t∉R:=λhe=>by obtain⟨l,h1,-⟩:=hc t he;rw[h1]at h;cases h
  exact⟨n,(iX he).trans h,ak _,λ_=>⟨rfl,rfl⟩⟩
 live:=λk h=>.inl ⟨A6 hc M h,rfl⟩
 ops:=λt e s l z h=>by
  have he:t∉R:=λhe=>by obtain⟨l,h1,-⟩:=hc t he;rw[h1]at h;cases h
  exact⟨l,z,(iX he).trans h,ak _,λe=>⟨rfl,e⟩,λ_=>⟨rfl,rfl⟩⟩
theorem Rx(Db:Rel y)(hy:∀i∈R,∃l',y.S[i]? =some (.cells l')/\(l'.map dz).all (Ml R)=true):Rel (x.uC y R):=by
 have MB:=EX hR hc M;have hP:∀i∈R,∃l,(x.uC y R).S[i]? =some (.cells l)/\(x.uC y R).μ i=y.μ i:=λi hi=>by obtain⟨l',-,h2,h3⟩:=qj hc M hi;exact⟨_,h3,h2.symm⟩
 have hF:∀{b o},y.Fz b o->x.Fz b o\/x.w.heap.size<=b\/∃i,i∈R/\Live x.S i/\x.μ i=b:=λ{b o} h=>(M.JA b o h).imp id λh=>h.imp id λ⟨k,h1,he⟩=>⟨k,(ni h1).1,(ni h1).2,he⟩;refine⟨λid l2 h=>?_,λid e s n h=>?_,λid b h hb=>?_,λj k hj hk he=>hR.inj j k (A6 hc M hj) (A6 hc M hk) he,Db.Ae,λid ⟨l,h⟩ o hf=>?_,λid e s n h o hf=>?_,λid e s l1 z h=>?_⟩
 .rcases qh hc M h with ⟨hi,l',h1,h2⟩|⟨hi,h1⟩;.cases h2;obtain⟨l3,h3,h4⟩:=hy id hi;rw[h1]at h3;cases h3;obtain⟨arr,e,h5,h6,h7⟩:=Db.cells id l' h1;obtain⟨l4,-,h8,-⟩:=qj hc M hi;refine⟨arr,e,by rw[h8]at h5;exact h5,by simpa using h6,λj c hj=>?_⟩;have hm:=aX.1 h4 c (cr hj);simp only[cM,af]at hj;obtain⟨c',h9,rfl⟩:=hj;exact M0 (x:=y) (y:=x.uC y R) (λb o h=>⟨h,rfl⟩) hP (h7 j c' h9) hm
  obtain⟨arr,e,h3,h4,h5⟩:=hR.cells id l2 h1;exact⟨arr,e,(rY hR M h1 (by simp) hi h3).trans h3,h4,λj c hj=>(h5 j c hj).mono MB⟩
 .rcases qh hc M h with ⟨hi,l',h1,h2⟩|⟨hi,h1⟩;.cases h2
  obtain⟨arr,h3,h4⟩:=hR.dR id e s n h1;exact⟨arr,(rY hR M h1 (by simp) hi h3).trans h3,h4⟩
 .rcases qh hc M h with ⟨hi,l',h1,h2⟩|⟨hi,h1⟩;.subst h2;cases hb
  obtain⟨o,h3,h4⟩:=hR.eC id b h1 hb;exact⟨o,(rY hR M h1 (fo hb) hi h3).trans h3,h4.mono MB⟩
 .rcases qh hc M h with ⟨hi,l',h1,h2⟩|⟨hi,h1⟩;.obtain⟨l4,-,h8,-⟩:=qj hc M hi;refine Db.sep id ⟨l',h1⟩ o ?_;rw[h8];exact hf
  obtain⟨arr,e,h3,-⟩:=hR.cells id l h1;rcases hF hf with h5|h5|⟨k,h5,h6,h7⟩;.exact hR.sep id ⟨l,h1⟩ o h5
  .have:=(aN.1 h3).1;change x.w.heap.size<=x.μ id at h5;omega
  exact hi (hR.inj k id h6 ⟨_,h1,by simp⟩ h7▸h5)
 .rcases qh hc M h with ⟨hi,l',h1,h2⟩|⟨hi,h1⟩;.cases h2
  obtain⟨arr,h3,-⟩:=hR.dR id e s n h1;rcases hF hf with h5|h5|⟨k,h5,h6,h7⟩;.exact hR.oH id e s n h1 o h5
  .have:=(aN.1 h3).1;change x.w.heap.size<=x.μ id at h5;omega
  exact absurd (hR.inj k id h6 ⟨_,h1,by simp⟩ h7▸h5) hi
 rcases qh hc M h with ⟨hi,l',h1,h2⟩|⟨hi,h1⟩;.cases h2
 obtain⟨arr,h4,h3,h6,h7,h8,h9,ue⟩:=hR.ops id e s l1 z h1;refine⟨arr,(rY hR M h1 (by simp) hi h4).trans h4,h3,h6,h7,λj c hc=>⟨(h8 j c hc).1,(h8 j c hc).2.mono MB⟩,λhz j hj=>(M.fz _ _ (h9 hz j hj)).1,λhz o hf=>?_⟩;rcases hF hf with h5|h5|⟨k,h5,h6,h7⟩;.exact ue hz o h5
 .have:=(aN.1 h4).1;change x.w.heap.size<=x.μ id at h5;omega
 exact absurd (hR.inj k id h6 ⟨_,h1,by simp⟩ h7▸h5) hi
end
theorem XU{call:bt}(hc:ir P aa call):ir P aa (OR call):=by
 intro f args S v S' h x vals hR hS ha;subst hS;unfold OR at h;split at h
 .rename_i R v1 S1 ho;cases h;unfold ov at ho;split at ho
  .rename_i hq;simp only[aC]at hq;obtain⟨⟨-,hA⟩,om⟩:=hq;split at ho
   .rename_i v2 S2 lZ;split at ho
    .rename_i hp;simp only[aC]at hp;cases ho;generalize jC x.S args=R at*;have Da:∀i∈R,∃l,x.S[i]? =some (.cells l)/\(l.map dz).all (Ml R)=true:=λi hi=>Lr (aX.1 om i hi);have ha':ia (x.yC R) (args.map jB) vals:=by refine⟨by simpa using ha.1,λj c hj=>?_⟩;have hm:=aX.1 hA c (cr hj);simp only[cM,af]at hj;obtain⟨c',h1,rfl⟩:=hj;exact aec (x:=x) (y:=x.yC R) (λb o h=>⟨h,rfl⟩) (λi hi=>by obtain⟨l,h,-⟩:=Da i hi;exact⟨_,yP hi h,rfl⟩) (ha.2 j c' h1) hm
     obtain⟨h1,h2⟩:=hc _ _ _ _ _ lZ (x.yC R) vals (WA hR Da) rfl ha';refine⟨h1,λfr cs hn=>h2 fr cs λy u ⟨q1,q2,q3,q4⟩=>?_⟩;subst q1;have hy:∀i∈R,∃l',y.S[i]? =some (.cells l')/\(l'.map dz).all (Ml R)=true:=λi hi=>Lr (aX.1 hp.2 i hi);exact hn (x.uC y R) u ⟨rfl,Rx hR Da q3 q2 hy,EX hR Da q3,q4.strip.pure_mono (x:=y) (y:=x.uC y R) (λb o h=>⟨h,rfl⟩) hp.1⟩
    cases ho
   cases ho
  cases ho
 exact hc _ _ _ _ _ h x vals hR rfl ha
end Go.Di
