import Derived.Test.YtadeehilamokkaaGreatDoorPk02
namespace Go.Tv
open Go Go.Di
mutual
def vW(g:Nat):TV->TV
 |.sl t l (.oS k)=>if k=g then .sl t l .no else .sl t l (.oS k)
 |.sl t l (.Ci _)=>.sl t l .no
 |.ptr id off=>if id=g then .unk else .ptr id off
 |.mp id=>if id=g then .unk else .mp id
 |.so id t=>if id=g then .unk else .so id t
 |.sp id t i off=>if id=g then .unk else .sp id t i off
 |.nN k fn te=>if k=g then .unk else .nN k fn (o6 g te)
 |.agg l=>.agg (o6 g l)
 |.tup l=>.tup (o6 g l)
 |.fn f a b=>.fn f (o6 g a) (o6 g b)
 |v=>v
def o6(g:Nat):cp->cp
 |[]=>[]
 |a::l=>vW g a::o6 g l
end
def pZ(g:Nat):TB->TB
 |.cells l=>.cells (o6 g l)
 |b=>b
def nS(tS:cx)(i:Nat)(b:TB):cx:=if i<tS.length then tS.set i b else tS++[b]
def adJ:TV->Bool
 |.val v=>!(v matches .tuple _)
 |.unk|.agg _|.tup _=>false
 |_=>true
def N1{α β:Type}(l:List α)(m:List β):Bool:=
 match l with
 |[]=>true
 |_::_=>match m with
  |[]=>false
  |_::_=>true
theorem YV{α β:Type}{l:List α}{m:List β}(h:N1 l m=true):l.length=0\/m.length≠0:=by unfold N1 at h;cases l<;>cases m<;>simp_all
structure TR where
 v:TV
 te:cp
 tS:cx
 FP:cy
 c:Prop
section
variable (P:Program) (ty:fo) (tt:TypeId->cJ)
def kS(te:cp)(o:Oper):cy:=
 match o.op with
 |.load _ a=>match eL te a with
  |some (.ptr id _)=>[id]
  |_=>[]
 |_=>[]
def stepT(te:cp)(tS:cx)(o:Oper)(nT:Nat):Option TR:=
 match o.op with
 |.alloc e=>match ty e with
  |some ⟨_,_,some z⟩=>some ⟨.ptr nT 0,te,nS tS nT (.cells (z.map s6)),[nT],True⟩
  |_=>none
 |.box _ x=>match eL te x with
  |some d=>if d.known then some ⟨.ptr nT 0,te,nS tS nT (.cells d.cells),[nT],True⟩else none
  |none=>none
 |.store t a x=>match ty t,eL te a,(eL te x).map (fA tt t)with
  |some d,some (.ptr id off),some v=>match tS[id]? with
   |some (.cells l)=>if v.known&&v.cells.length==d.size&&v.cells.all adJ then(Nc l off v.cells).map λl'=>⟨.unk,te,tS.set id (.cells l'),[id],True⟩else none
   |_=>none
  |_,_,_=>none
 |.call {callee:=.builtin .append,args,argTypes}=>match args.toList,argTypes.toList with
  |[x,y],[t,u]=>if t=u/\ty.h o≠1 then match ty t,(eL te x).map (fA tt t),(eL te y).map (fA tt t)with
   |some ⟨.slice e s iU _,_,_⟩,some (.sl k l ap),some (.sl k' m _)=>match ty e with
    |some ⟨_,_,some _⟩=>if h:k'=k then
     if decide (0<s)&&decide (iU<=100000)&&k.size==s then match ap with
      |.no|.stop _|.Ci _=>none
      |.full=>match ty.h o==3 with
       |true=>some ⟨.sl k (l++(h▸m)) (.oS nT),te,nS tS nT (.own e s),[nT],l.length+m.length<=1000000000/\(l.length=0\/m.length≠0)⟩
       |false=>if N1 l m then some ⟨.sl k (l++(h▸m)) (.oS nT),te,nS tS nT (.own e s),[nT],l.length+m.length<=1000000000⟩else none
      |.oS g=>match tS[g]? with
       |some (.own e' s')=>if e'==e&&s'==s then some ⟨.sl k (l++(h▸m)) (.oS g),o6 g te,tS.map (pZ g),[g,nT],l.length+m.length<=1000000000⟩else none
       |_=>none
     else none
     else none
    |_=>none
   |_,_,_=>none
   else none
  |_,_=>none
 |_=>(bI P ty tt te tS o).map λr=>⟨r.1,te,tS,kS te o,r.2⟩
end
def gP(ρ:Operand->Option DV)(o:Oper)(aB:Nat):cy:=
 match o.op with
 |.alloc _|.box .. =>[aB]
 |.store _ a _=>match ρ a with
  |some (.ptr id _)=>[id]
  |_=>[]
 |.load _ a=>match ρ a with
  |some (.ptr id _)=>[id]
  |some (.fV id _ _)=>[id]
  |_=>[]
 |.call {callee:=.builtin .append,args,.. }=>match(args[0]?).bind ρ with
  |some (.sl _ (some t) _)=>[t,aB]
  |_=>[aB]
 |_=>[]
def Gg:(t:TT)->t.den->List Value
 |.int k,n=>[.int k n]
 |.bool,b=>[.bool b]
 |.str,s=>[.string s]
 |.unit,_=>[]
 |.pair a b,x=>Gg a x.1++Gg b x.2
 |.sl _,_=>[]
def J9(t:TT)(x:t.den):Value:=.agg (Gg t x).toArray
def CA(t:TT)(l:List t.den):List (Value×Value):=l.map λx=>(J9 t x,.bool true)
def fC(t:TT):List t.den->cn->Prop
 |[],ds=>ds=[]
 |x::l,ds=>∃c m,ds=c++m/\CR t x c/\fC t l m
def aeq:TB->Option DB->Prop
 |.map kt l,b=>b=some (.map (CA kt l))
 |.rows t e l z,b=>0<t.size/\(t.agg||t.size==1)=true/\∃ds,b=some (.op e t.size ds z)/\fC t l ds
 |.loop,b=>∃r,b=some (.loop r)/\r.st=.ready/\r.j5=none
 |_,_=>True
structure bO (ι:kW) (te:cp) (tS:cx) (env:cn) (S:aj):Prop where
 env:cq ι S te env
 cells:IM ι S tS
 own:∀k e s,tS[k]? =some (.own e s)->∀t,ι k=some t->∃n,S[t]? =some (.tail e s n)
 qH:∀k k',ι k=some k'->∃b,tS[k]? =some b/\b≠.none
 inj:∀i j k',ι i=some k'->ι j=some k'->i=j
 mp:∀k b,tS[k]? =some b->∀t,ι k=some t->aeq b S[t]?
def Zx(ι:kW)(w:kW):Prop:=∀k k',ι k=some k'->w k'=some k
section
variable {P:Program} {ty:fo} {tt:TypeId->cJ} {ι ι' w:kW} {S S':aj} {te:cp} {env:cn} {tS:cx} {aD:bT} {call:bg} {yf:dx} {o:Oper} {aB nT:Nat} {r:TR}
def N5(a b:Option DB):Prop:=(∀e s n,a=some (.tail e s n)->b=some (.tail e s n))/\(∀e s l z,a=some (.op e s l z)->∃l' z',b=some (.op e s l' z')/\l'.length=l.length)/\∀r,a=some (.loop r)->b=some (.loop r)
theorem dz{a b:Option DB}(h:b=a):N5 a b:=by subst h;exact⟨λ_ _ _ h=>h,λ_ _ l z h=>⟨l,z,h,rfl⟩,λ_ h=>h⟩
theorem vt{a b:Option DB}(h1:∀e s n,a≠some (.tail e s n))(h2:∀e s l z,a≠some (.op e s l z))(h3:∀r,a≠some (.loop r)):N5 a b:=⟨λ_ _ _ h=>absurd h (h1 _ _ _),λ_ _ _ _ h=>absurd h (h2 _ _ _ _),λ_ h=>absurd h (h3 _)⟩
def iY(ι:kW)(S:aj)(ι':kW)(S':aj)(bad:Nat->Prop):Prop:=∀k k',¬bad k->ι k=some k'->ι' k=some k'/\N5 S[k']? S'[k']?
theorem Rm{n:Nat}{tok:Option Nat}{f:SF}{ap:Ap}{bad:Nat->Prop}(h:iY ι S ι' S' bad)(hb:∀g,ap=.oS g\/ap=.Ci g->¬bad g)(k:qb ι S n tok f ap):qb ι' S' n tok f ap:=by
 cases ap with
 |no=>trivial
 |full=>exact k
 |oS g=>refine k.imp id λ⟨t,e,s,h1,h2,h3⟩=>?_;obtain⟨h4,h5⟩:=h g t (hb g (.inl rfl)) h1;exact⟨t,e,s,h4,h2,h5.1 _ _ _ h3⟩
 |stop b=>trivial
 |Ci g=>refine k.imp id λ⟨t,e,s,h1,h2,h3⟩=>?_;obtain⟨h4,h5⟩:=h g t (hb g (.inr rfl)) h1;exact⟨t,e,s,h4,h2,h5.1 _ _ _ h3⟩
mutual
theorem abi(h:iY ι S ι' S' λ_=>False):∀(v:TV)(d:DV),RT ι S v d->RT ι' S' v d
 |.unk,_,_=>by simp only[RT]
 |.val _,d,k=>by cases d<;>simp only[RT]at k⊢;exact k
 |.jD,d,k=>by cases d<;>simp only[RT]at k⊢;exact k
 |.agg l,d,k=>by cases d<;>simp only[RT]at k⊢;exact bn h l _ k
 |.tup l,d,k=>by cases d<;>simp only[RT]at k⊢;exact bn h l _ k
 |.sl t l ap,d,k=>by cases d<;>simp only[RT]at k⊢;exact⟨k.1,Rm h (λ_ _=>id) k.2⟩
 |.ptr id off,d,k=>by cases d<;>simp only[RT]at k⊢;exact⟨(h _ _ (λe=>e) k.1).1,k.2⟩
 |.eU t l i off,d,k=>by cases d<;>simp only[RT]at k⊢;exact k
 |.mp id,d,k=>by cases d<;>simp only[RT]at k⊢;exact(h _ _ (λe=>e) k).1
 |.so g t,d,k=>by cases d<;>simp only[RT]at k⊢;obtain⟨k1,k2,e,s,l,z,k3,k4⟩:=k;obtain⟨h1,h2⟩:=h _ _ (λe=>e) k1;obtain⟨l',z',h3,h4⟩:=h2.2.1 e s l z k3;exact⟨h1,k2,e,s,l',z',h3,ab⟩
 |.nN k0 fn te,d,k=>by cases d<;>simp only[RT]at k⊢;obtain⟨k1,ps,a,b,env,Bv,k4,k2,k3⟩:=k;obtain⟨h1,h2⟩:=h _ _ (λe=>e) k1;exact⟨h1,ps,a,b,env,Bv,k4,h2.2.2 _ k2,bn h te env k3⟩
 |.sp g t i off,d,k=>by cases d<;>simp only[RT]at k⊢;obtain⟨k1,k2,e,s,l,z,k3,k4,k5⟩:=k;obtain⟨h1,h2⟩:=h _ _ (λe=>e) k1;obtain⟨l',z',h3,h4⟩:=h2.2.1 e s l z k3;exact⟨h1,k2,e,s,l',z',h3,ab,ab⟩
 |.fn f a b,d,k=>by cases d<;>simp only[RT]at k⊢;exact⟨k.1,bn h a _ k.2.1,bn h b _ k.2.2⟩
theorem bn(h:iY ι S ι' S' λ_=>False):∀(l:cp)(m:cn),cq ι S l m->cq ι' S' l m
 |[],m,k=>by rw[aO k];exact bJ
 |a::l,m,k=>by obtain⟨d,m',rfl,h1,h2⟩:=ax k;exact aP (abi h a d h1) (bn h l m' h2)
end
mutual
theorem ae1{g:Nat}(h:iY ι S ι' S' λk=>k=g):∀(v:TV)(d:DV),RT ι S v d->RT ι' S' (vW g v) d
 |.unk,_,_=>by simp only[vW,RT]
 |.val _,d,k=>by cases d<;>simp only[RT,vW]at k⊢;exact k
 |.jD,d,k=>by cases d<;>simp only[RT,vW]at k⊢;exact k
 |.agg l,d,k=>by cases d<;>simp only[RT,vW]at k⊢;exact mX h l _ k
 |.tup l,d,k=>by cases d<;>simp only[RT,vW]at k⊢;exact mX h l _ k
 |.sl t l .no,d,k=>by cases d<;>simp only[RT,vW]at k⊢;exact⟨k.1,trivial⟩
 |.sl t l .full,d,k=>by cases d<;>simp only[RT,vW]at k⊢;exact k
 |.sl t l (.stop _),d,k=>by cases d<;>simp only[RT,vW]at k⊢;exact⟨k.1,trivial⟩
 |.sl t l (.Ci _),d,k=>by cases d<;>simp only[RT,vW]at k⊢;exact⟨k.1,trivial⟩
 |.sl t l (.oS j),d,k=>by
  cases d<;>simp only[RT]at k;simp only[vW];split;simp only[RT];exact⟨k.1,trivial⟩
  rename_i hj;simp only[RT];exact⟨k.1,Rm h (λg' e=>by rcases e with e|e<;>cases e;exact hj) k.2⟩
 |.ptr id off,d,k=>by cases d<;>simp only[RT]at k;simp only[vW];split;simp only[RT];rename_i hj;simp only[RT];exact⟨(h _ _ hj k.1).1,k.2⟩
 |.eU t l i off,d,k=>by cases d<;>simp only[RT,vW]at k⊢;exact k
 |.mp id,d,k=>by cases d<;>simp only[RT]at k;simp only[vW];split;simp only[RT];rename_i hj;simp only[RT];exact(h _ _ hj k).1
 |.so j t,d,k=>by cases d<;>simp only[RT]at k;simp only[vW];split;simp only[RT];rename_i hj;simp only[RT];obtain⟨k1,k2,e,s,l,z,k3,k4⟩:=k;obtain⟨h1,h2⟩:=h _ _ hj k1;obtain⟨l',z',h3,h4⟩:=h2.2.1 e s l z k3;exact⟨h1,k2,e,s,l',z',h3,ab⟩
 |.nN k0 fn te,d,k=>by cases d<;>simp only[RT]at k;simp only[vW];split;simp only[RT];rename_i hj;simp only[RT];obtain⟨k1,ps,a,b,env,Bv,k4,k2,k3⟩:=k;obtain⟨h1,h2⟩:=h _ _ hj k1;exact⟨h1,ps,a,b,env,Bv,k4,h2.2.2 _ k2,mX h te env k3⟩
 |.sp j t i off,d,k=>by cases d<;>simp only[RT]at k;simp only[vW];split;simp only[RT];rename_i hj;simp only[RT];obtain⟨k1,k2,e,s,l,z,k3,k4,k5⟩:=k;obtain⟨h1,h2⟩:=h _ _ hj k1;obtain⟨l',z',h3,h4⟩:=h2.2.1 e s l z k3;exact⟨h1,k2,e,s,l',z',h3,ab,ab⟩
 |.fn f a b,d,k=>by cases d<;>simp only[RT,vW]at k⊢;exact⟨k.1,mX h a _ k.2.1,mX h b _ k.2.2⟩
theorem mX{g:Nat}(h:iY ι S ι' S' λk=>k=g):∀(l:cp)(m:cn),cq ι S l m->cq ι' S' (o6 g l) m
 |[],m,k=>by rw[aO k];simp only[o6];exact bJ
 |a::l,m,k=>by obtain⟨d,m',rfl,h1,h2⟩:=ax k;simp only[o6];exact aP (ae1 h a d h1) (mX h l m' h2)
end
def xx(tS:cx)(nT:Nat):Prop:=tS[nT]? =some .none\/nT=tS.length
def yl(S:aj)(aB:Nat):Prop:=S[aB]? =some .none\/aB=S.length
theorem cM{b:TB}(h:xx tS nT)(j:Nat):(nS tS nT b)[j]? =if j=nT then some b else tS[j]? :=by
 unfold nS;rcases h with h|h
 grind
 grind
theorem bC{b:DB}(h:yl S aB)(j:Nat):(eF S aB b)[j]? =if j=aB then some b else S[j]? :=by
 unfold eF;rcases h with h|h
 grind
 grind
def upd(ι:kW)(k k':Nat):kW:=λj=>if j=k then some k' else ι j
theorem bO.live (h:bO ι te tS env S){k k':Nat}(hk:ι k=some k'):∃b,S[k']? =some b/\b≠.none:=by
 obtain⟨b,h1,h2⟩:=h.qH k k' hk;cases b with
 |none=>exact(h2 rfl).elim
 |cells l=>obtain⟨k'',ds,h3,h4,-⟩:=h.cells k l h1;rw[hk]at h3;cases h3;exact⟨_,h4,λe=>aE⟩
 |own e s=>obtain⟨n,h3⟩:=h.own k e s h1 k' hk;exact⟨_,h3,λe=>aE⟩
 |map kt l=>exact⟨_,h.mp k _ h1 k' hk,λe=>aE⟩
 |rows t e l z=>obtain⟨-,-,ds,h3,-⟩:=h.mp k _ h1 k' hk;exact⟨_,h3,λe=>aE⟩
 |loop=>obtain⟨r,h3,-⟩:=h.mp k _ h1 k' hk;exact⟨_,h3,λe=>aE⟩
theorem bO.dD (h:bO ι te tS env S)(hn:yl S aB){k k':Nat}(hk:ι k=some k'):k'≠aB:=by
 rintro rfl;obtain⟨b,h1,h2⟩:=h.live hk;rcases hn with hn|hn
 grind
 grind
theorem bO.new (h:bO ι te tS env S)(hn:xx tS nT):ι nT=none:=by
 cases hk:ι nT with
 |none=>rfl
 |some k'=>
  obtain⟨b,h1,h2⟩:=h.qH _ _ hk;rcases hn with hn|hn
  grind
  grind
theorem rK(h:bO ι te tS env S)(hT:xx tS nT)(hn:yl S aB)(b:DB):iY ι S (upd ι nT aB) (eF S aB b) λ_=>False:=by
 intro k k' _ hk;have h1:k≠nT:=by rintro rfl;rw[h.new hT]at hk;cases hk
 exact⟨by simp only[upd,h1,if_false];exact hk,dz (by rw[bC hn,if_neg (h.dD hn hk)])⟩
theorem qm(h:bO ι te tS env S)(hn:yl S aB)(hT:xx tS nT)(hw:Zx ι w):Zx (upd ι nT aB) (upd w aB nT):=by
 intro k k' hk;unfold upd at hk⊢;split at hk
 grind
 rw[if_neg (h.dD hn hk)];exact hw k k' hk
theorem wU(h:bO ι te tS env S)(hT:xx tS nT)(hn:yl S aB){ts:cp}{ds:cn}(hc:cq ι S ts ds):bO (upd ι nT aB) te (nS tS nT (.cells ts)) env (eF S aB (.cells ds)):=by
 have K:=rK h hT hn (.cells ds);refine⟨bn K _ _ h.env,λk l hk=>?_,λk e s hk t ht=>?_,λk k' hk=>?_,λi j k' hi hj=>?_,λk b hk t ht=>?_⟩;rw[cM hT]at hk;split at hk;rename_i e;subst e;cases hk;exact⟨aB,ds,by simp[upd],by rw[bC hn,if_pos rfl],bn K _ _ hc⟩;rename_i e;obtain⟨k',iu,h1,h2,h3⟩:=h.cells k l hk;exact⟨k',iu,by simp only[upd,e,if_false];exact h1,by rw[bC hn,if_neg (h.dD hn h1)];exact h2,bn K _ _ h3⟩;rw[cM hT]at hk;split at hk;cases hk;rename_i e';simp only[upd,e',if_false]at ht;obtain⟨n,h1⟩:=h.own k e s hk t ht;exact⟨n,by rw[bC hn,if_neg (h.dD hn ht)];exact h1⟩;rw[cM hT];split
 grind
 rename_i e;simp only[upd,e,if_false]at hk;exact h.qH k k' hk;unfold upd at hi hj;split at hi<;>split at hj;omega;cases hi;exact(h.dD hn hj rfl).elim
 cases hj;exact(h.dD hn hi rfl).elim
 exact h.inj i j k' hi hj;rw[cM hT]at hk;split at hk;cases hk;trivial
 rename_i e';simp only[upd,e',if_false]at ht;rw[bC hn,if_neg (h.dD hn ht)];exact h.mp k b hk t ht
theorem EY(h:bO ι te tS env S)(hT:xx tS nT){e s:Nat}:bO ι te (nS tS nT (.own e s)) env S:=by
 refine⟨h.env,λk0 l0 hk=>?_,λk0 e0 s0 hk t0 FC=>?_,λk0 k1 hk=>?_,h.inj,λk0 b0 hk t0 FC=>?_⟩;rw[cM hT]at hk;split at hk;cases hk;exact h.cells _ _ hk;rw[cM hT]at hk;split at hk;rename_i e5;subst e5;rw[h.new hT]at FC;cases FC
 exact h.own _ _ _ hk _ FC;rw[cM hT];split
 grind
 exact h.qH _ _ hk;rw[cM hT]at hk;split at hk;cases hk;trivial
 exact h.mp _ _ hk _ FC
theorem BW(h:bO ι te tS env S)(hT:xx tS nT)(hn:yl S aB)(e s n:Nat):bO (upd ι nT aB) te (nS tS nT (.own e s)) env (eF S aB (.tail e s (n*s))):=by
 refine⟨bn (rK h hT hn _) _ _ h.env,λk0 l0 hk=>?_,λk0 e0 s0 hk t0 FC=>?_,λk0 k1 hk=>?_,λi j k1 hi hj=>?_,λk0 b0 hk t0 FC=>?_⟩;rw[cM hT]at hk;split at hk;cases hk;rename_i e5;obtain⟨k',iu,n1,n2,n3⟩:=h.cells _ _ hk;exact⟨k',iu,by simp only[upd,e5,if_false];exact n1,by rw[bC hn,if_neg (h.dD hn n1)];exact n2,bn (rK h hT hn _) _ _ n3⟩;rw[cM hT]at hk;split at hk;rename_i e5;cases hk;simp only[upd,e5,if_true,aF]at FC;subst FC;exact⟨_,by rw[bC hn,if_pos rfl]⟩;rename_i e5;simp only[upd,e5,if_false]at FC;obtain⟨n,n1⟩:=h.own _ _ _ hk _ FC;exact⟨n,by rw[bC hn,if_neg (h.dD hn FC)];exact n1⟩;rw[cM hT];split
 grind
 rename_i e5;simp only[upd,e5,if_false]at hk;exact h.qH _ _ hk;unfold upd at hi hj;split at hi<;>split at hj;omega;cases hi;exact(h.dD hn hj rfl).elim
 cases hj;exact(h.dD hn hi rfl).elim
 exact h.inj i j k1 hi hj;rw[cM hT]at hk;split at hk;cases hk;trivial
 rename_i e5;simp only[upd,e5,if_false]at FC;rw[bC hn,if_neg (h.dD hn FC)];exact h.mp _ _ hk _ FC
def Lv(S:aj)(i:Nat):Prop:=∃b,S[i]? =some b/\b≠.none
structure Fr (B:cy) (ι:kW) (S:aj) (ι':kW) (S':aj):Prop where
 rest:∀k',Lv S k'->(∀k,ι k≠some k')->S'[k']? =S[k']?
 ours:∀k k',ι' k=some k'->(∃j,ι j=some k')\/¬Lv S k'
 base:∀k,k∈B->ι' k=ι k
def lQ:Option cp->TB
 |some l=>.cells l
 |none=>.loop
def oy(B:cy)(tS:cx):Prop:=∀k,k∈B->∃l,tS[k]? =some (lQ l)
theorem Fr.refl (B:cy)(ι:kW)(S:aj):Fr B ι S ι S:=⟨λ_ _ _=>rfl,λk _ h=>.inl ⟨k,h⟩,λ_ _=>rfl⟩
theorem Fr.trans {B:cy}{ι'':kW}{xh:aj}(h:Fr B ι S ι' S')(k:Fr B ι' S' ι'' xh):Fr B ι S ι'' xh where
 rest:=λk' hl hn=>by
  have h1:=h.rest k' hl hn;have jZ:Lv S' k':=by obtain⟨b,h2,h3⟩:=hl;exact⟨b,h1.trans h2,h3⟩
  refine(k.rest k' jZ λj hj=>?_).trans h1;rcases h.ours j k' hj with ⟨i,h2⟩|h2
  grind
  grind
 ours:=λj k' hj=>by
  rcases k.ours j k' hj with ⟨i,h1⟩|h1;exact h.ours i k' h1;by_cases hl:Lv S k';by_cases hn:∃j,ι j=some k'
  grind
  refine(h1 ?_).elim;obtain⟨b,h2,h3⟩:=hl;exact⟨b,(h.rest k' ⟨b,h2,h3⟩ λi hi=>hn ⟨i,hi⟩).trans h2,h3⟩
  grind
 base:=λj hj=>(k.base j hj).trans (h.base j hj)
theorem zZ(hn:yl S aB):¬Lv S aB:=by
 rintro⟨b,h1,h2⟩;rcases hn with hn|hn
 grind
 grind
theorem sg{B:cy}{g:Nat}{b:DB}(hn:yl S aB)(hg:g∉B):Fr B ι S (upd ι g aB) (eF S aB b) where
 rest:=λk' hl _=>by rw[bC hn,if_neg];rintro rfl;exact zZ hn hl
 ours:=λk k' hk=>by
  unfold upd at hk;split at hk;cases hk;exact .inr (zZ hn)
  grind
 base:=λk hk=>by unfold upd;rw[if_neg (λe:k=g=>hg (e▸hk))]
theorem AG{B:cy}{k0 id:Nat}{b:DB}(hk:ι k0=some id):Fr B ι S ι (S.set id b) where
 rest:=λk' _ hn=>by rw[aN,if_neg];rintro rfl;exact hn k0 hk
 ours:=λk _ h=>.inl ⟨k,h⟩
 base:=λ_ _=>rfl
theorem ng{B:cy}(hB:oy B tS)(hT:xx tS nT):nT∉B:=by
 intro hlt;obtain⟨l,h1⟩:=hB _ hlt;rcases hT with hT|hT;rw[hT]at h1;cases l<;>cases h1
 grind
theorem jl{B:cy}{b:TB}(hB:oy B tS)(hT:xx tS nT):oy B (nS tS nT b):=by intro k hk;have:=ng hB hT;rw[cM hT,if_neg (λe:k=nT=>this (e▸hk))];exact hB k hk
theorem acp{B:cy}{g e s:Nat}(hB:oy B tS)(h:tS[g]? =some (.own e s)):g∉B:=by intro hlt;obtain⟨l,h1⟩:=hB _ hlt;rw[h]at h1;cases l<;>cases h1
def Nn(i:Nat)(S S':aj):Prop:=S.length<=S'.length/\∀j,j≠i->S[j]? =some .none->S'[j]? =some .none
theorem fP(i:Nat)(S:aj):Nn i S S:=⟨ai _,λ_ _ h=>h⟩
theorem oC{b:DB}(hn:yl S aB):Nn aB S (eF S aB b):=by refine⟨?_,λj hj h=>by rw[bC hn,if_neg hj];exact h⟩;unfold eF;split<;>simp
theorem Az{i id:Nat}{b b':DB}(h:S[id]? =some b)(hb:b≠.none):Nn i S (S.set id b'):=by
 refine⟨ae,λj _ hj=>?_⟩;rw[aN,if_neg];exact hj
 grind
end
end Go.Tv
namespace Go.Tv
open Go Go.Di
variable {P:Program} {ty:fo} {tt:TypeId->cJ} {ι ι' w:kW} {S S':aj} {te:cp} {env:cn} {tS:cx} {aD:bT} {call:bg} {yf:dx} {o:Oper} {aB nT:Nat} {B:cy} {r:TR}
theorem WH:∀{l:cp}{m:cn},cq ι S l m->l.all adJ=true->m.all DV.one=true
 |[],m,h,_=>by rw[aO h];rfl
 |a::l,m,h,k=>by obtain⟨d,m',rfl,h1,h2⟩:=ax h;simp only[cg,aC]at k⊢;refine⟨?_,WH h2 k.2⟩;cases a<;>cases d<;>simp only[RT]at h1<;>first|rfl|(cases k.1;done)|(subst h1;exact k.1)
def IL(P:Program)(ty:fo)(aD:bT)(call:bg)(yf:dx)(B:cy)(ι w:kW)(env:cn)(S:aj)(o:Oper)(aB:Nat)(r:TR):Prop:=
 ∃d S' ι' w',ah P ty aD call yf (ir env) o S aB=some (d,S')/\bO ι' r.te r.tS env S'/\RT ι' S' r.v d/\Zx ι' w'/\(∀j,j≠aB->w' j=w j)/\(∀j∈gP (ir env) o aB,(∃k∈r.FP,w' j=some k)/\(j=aB\/∃i,ι i=some j))/\Fr B ι S ι' S'/\oy B r.tS/\Nn aB S S'
theorem XC(h:bO ι te tS env S)(hB:oy B tS)(hw:Zx ι w){t:TypeId}{a x:Operand}(ho:o.op=.store t a x)(hr:stepT P ty tt te tS o nT=some r):IL P ty aD call yf B ι w env S o aB r:=by
 simp only[stepT,ho]at hr;split at hr;rename_i td id off v h1 h2 h3;split at hr;rename_i l h4;split at hr;rename_i hc;simp only[aC,dQ]at hc;obtain⟨⟨c1,c2⟩,c3⟩:=hc;simp only[af]at hr h3;obtain⟨l',h5,rfl⟩:=hr;obtain⟨u,h6,h7⟩:=h3;obtain⟨da,k1,k2⟩:=bp h.env h2;cases da<;>simp only[RT]at k2;rename_i iG rV;obtain⟨k3,rfl⟩:=k2;obtain⟨d,k4,k5⟩:=bp h.env h6;have k6:=cN (tt:=tt) (t:=t) k5;rw[h7]at k6;have k7:=uv c1 k6;obtain⟨akn,ds,m1,m2,m3⟩:=h.cells id l h4;rw[k3]at m1;cases m1;obtain⟨iu,m4,m5⟩:=I9 m3 k7 h5;have K:iY ι S ι (S.set iG (.cells iu)) λ_=>False:=λk k' _ hk=>⟨hk,by
  rw[aN];split;rename_i e1;subst e1;exact vt (by rw[m2];simp) (by rw[m2];simp) (by rw[m2];simp)
  exact dz rfl⟩
 have hlt:=(aI.1 m2).1;refine⟨bD,S.set iG (.cells iu),ι,w,?_,?_,by simp only[RT],hw,λ_ _=>rfl,?_,AG k3,?_,Az m2 (λe=>aE)⟩;have e1:d.cells.length=td.size:=by rw[gY k7];exact c2
 simp only[ah,ho,k1,k4,pG,h1,m2,e1,WH k7 c3,decide_true,gq,if_true,m4,ay];refine⟨bn K _ _ h.env,λk l0 hk=>?_,λk e s hk t0 ht=>?_,λk k' hk=>?_,h.inj,λk b0 hk t0 ht=>?_⟩;simp only[aN]at hk;split at hk;rename_i e1;subst e1;split at hk;cases hk;exact⟨iG,iu,k3,by rw[aN,if_pos rfl,if_pos hlt],bn K _ _ m5⟩;cases hk;rename_i e1;obtain⟨k',M8,n1,n2,n3⟩:=h.cells k l0 hk;refine⟨k',M8,n1,?_,bn K _ _ n3⟩;rw[aN,if_neg ?_];exact n2;rintro rfl;exact e1 (h.inj _ _ _ k3 n1)
 simp only[aN]at hk;split at hk
 grind
 obtain⟨n,n1⟩:=h.own k e s hk t0 ht;exact⟨n,(K k t0 (λe=>e) ht).2.1 _ _ _ n1⟩;simp only[aN];split
 grind
 exact h.qH k k' hk;simp only[aN]at hk;split at hk;split at hk<;>cases hk;trivial;rename_i e1;rw[aN,if_neg];exact h.mp k b0 hk t0 ht;rintro rfl;exact e1 (h.inj _ _ _ k3 ht)
 intro j hj;simp only[gP,ho,k1,bX]at hj;subst hj;exact⟨⟨id,ae,hw _ _ k3⟩,.inr ⟨_,k3⟩⟩;intro k hk;simp only[aN];split;rename_i e1;subst e1;exact⟨some _,if_pos (aI.1 h4).1⟩;exact hB k hk;cases hr;cases hr;cases hr
theorem SH{k k':TT}(h:k'=k){m:List k'.den}{rows:cn}(hr:ei (CR k') k'.agg m rows):ei (CR k) k.agg (h▸m) rows:=by grind
theorem LX{k k':TT}(h:k'=k)(m:List k'.den):(h▸m:List k.den).length=m.length:=by grind
theorem B6{rows:cn}(h:rows.isEmpty=true):rows=[]:=Dd.1 h
theorem Uf(h:bO ι te tS env S)(hB:oy B tS)(hw:Zx ι w)(hT:xx tS nT)(hn:yl S aB){args:Array Operand}{argTypes:Array TypeId}(ho:o.op=.call {callee:=.builtin .append,args,argTypes})(hr:stepT P ty tt te tS o nT=some r)(hc:r.c):IL P ty aD call yf B ι w env S o aB r:=by
 simp only[stepT,ho]at hr;split at hr
 .rename_i x y t u ha ht;split at hr
  .rename_i Un;obtain⟨Un,hh⟩:=Un;subst Un;split at hr
   .rename_i e s iU ag sz z0 k l ap k' m _ h1 h2 h3;split at hr
    .rename_i k0 sz' z h4;split at hr
     .rename_i F9;split at hr
      .rename_i pz;simp only[aC,dQ,bR]at pz;obtain⟨⟨c1,c2⟩,c3⟩:=pz;simp only[af]at h2 h3;obtain⟨ux,e1,e2⟩:=h2;obtain⟨uy,e3,e4⟩:=h3;obtain⟨da,k1,k2⟩:=bp h.env e1;have k3:=cN (tt:=tt) (t:=t) k2;rw[e2]at k3;obtain⟨db,k4,k5⟩:=bp h.env e3;have k6:=cN (tt:=tt) (t:=t) k5;rw[e4]at k6;cases da<;>simp only[RT]at k3;rename_i rows tok f;cases db<;>simp only[RT]at k6;rename_i news aiN f';obtain⟨k3,kap⟩:=k3;obtain⟨k6,-⟩:=k6;have hla:=lX k3;have hlb:=lX k6;have k6':=SH F9 k6;have ad7:=BT k3 k6';have yb:(rows.all λr=>decide (r.cells.length=s))=true:=aU.2 λr hr=>lT ((jr k3 r hr).trans c3);have uZ:(news.all λr=>decide (r.cells.length=s))=true:=aU.2 λr hr=>lT ((jr k6' r hr).trans c3);have hx:(args[0]?).bind (ir env)=some (.sl rows tok f):=by
        have:args[0]? =some x:=by rw[<-jL,ha];rfl
        rw[this];exact k1
       have PI:gP (ir env) o aB=match tok with|some t=>[t,aB]|none=>[aB]:=by simp only[gP,ho,hx];cases tok<;>rfl
       have aau:l.length+m.length<=1000000000->(decide (0<s)&&decide ((rows.length+news.length)*iU<=fE)&&decide (rows.length+news.length<=140737488355328-4096)&&news.all (λr=>decide (r.cells.length=s)))=true:=by
        intro hle;simp only[aC,bR];rw[hla,hlb];refine⟨⟨⟨c1,?_⟩,ab⟩,uZ⟩
        calc (l.length+m.length)*iU<=1000000000*100000:=Nat.mul_le_mul hle c2
         _<=fE:=ao
       have hz:∀d S',jJ ty S aB t (.sl rows tok f) (.sl news aiN f')=some (d,S')->ah P ty aD call yf (ir env) o S aB=some (d,S'):=by intro d S' hd;simp only[ah,ho,ha,ht,if_true,k1,k4,hd]
       split at hr;cases hr;cases hr;cases hr;obtain⟨c0,J3,hc0,afs⟩:∃c,r=⟨.sl k (l++(F9▸m)) (.oS nT),te,nS tS nT (.own e s),[nT],c⟩/\(l.length+m.length<=1000000000)/\(l.length=0\/m.length≠0):=by
        split at hr
        grind
        split at hr;rename_i hf;cases hr;exact⟨_,rfl,hc,YV hf⟩
        cases hr
       subst J3;obtain⟨rfl,yx⟩:=kap;have aay:=aau hc0;by_cases Pu:news.isEmpty=true;have hm:m=[]:=eE (by rw[<-hlb,B6 Pu];rfl);subst hm;refine⟨.sl rows none f,S,ι,upd w aB nT,hz _ _ (by simp only[jJ,h1,Pu,if_true]),?_,?_,?_,?_,?_,Fr.refl _ _ _,jl hB hT,fP _ _⟩;exact EY h hT;simp only[RT];have ZV:l=[]:=by grind
       refine⟨?_,.inl ⟨rfl,yx,by rw[hla,ZV];rfl⟩⟩;have e7:(F9▸([]:List k'.den):List k.den)=[]:=eE (by rw[LX];rfl);rw[e7,iR];exact k3;intro a b pV;unfold upd;rw[if_neg (h.dD hn pV)];exact hw _ _ pV;intro j hj;unfold upd;rw[if_neg hj]
       intro j hj;rw[PI,bX]at hj;exact⟨⟨nT,ae,by simp[upd,hj]⟩,.inl hj⟩
       skip
       refine⟨.sl (rows++news) (some aB) ⟨false,none⟩,eF S aB (.tail e s ((rows.length+news.length)*s)),upd ι nT aB,upd w aB nT,hz _ _ ?_,?_,?_,qm h hn hT hw,?_,?_,sg hn (ng hB hT),jl hB hT,oC hn⟩;simp only[jJ,h1,Pu,aJ,if_false,h4,aay,if_true,yx,yb,gq];exact BW h hT hn e s _;simp only[RT];refine⟨ad7,.inr ⟨aB,e,s,by simp[upd],rfl,?_⟩⟩;rw[bC hn,if_pos rfl,cL];intro j hj;unfold upd;rw[if_neg hj]
       intro j hj;rw[PI,bX]at hj;exact⟨⟨nT,ae,by simp[upd,hj]⟩,.inl hj⟩;rename_i g;split at hr
       .rename_i e' s' dW;split at hr
        .rename_i hes;simp only[aC,dQ]at hes;obtain⟨rfl,rfl⟩:=hes;simp only[aF]at hr;subst hr;have aay:=aau hc;have htS:∀j,(tS.map (pZ g))[j]? =(tS[j]?).map (pZ g):=λj=>cH ..;have hgn:g≠nT:=by
          rintro rfl;rcases hT with hT|hT
          grind
          grind
         have hBm:oy B (tS.map (pZ g)):=λk hk=>by obtain⟨l0,h0⟩:=hB k hk;exact⟨l0.map (o6 g),by rw[htS,h0];cases l0<;>rfl⟩
         have share:∀(ι':kW)(S':aj),iY ι S ι' S' (λk=>k=g)->(∀k k',k≠g->(ι' k=some k'↔ι k=some k'))->(∀k k' b,k≠g->ι k=some k'->(∀e s n,b≠.tail e s n)->S[k']? =some b->S'[k']? =some b)->
           (∀t,ι' g=some t->∃n,S'[t]? =some (.tail e' s' n))->(∀k k',k≠g->ι k=some k'->ι' g≠some k')->bO ι' (o6 g te) (tS.map (pZ g)) env S':=by
          intro ι' S' K hιe dB hg aku;refine⟨mX K _ _ h.env,λk0 l0 hk=>?_,λk0 e0 s0 hk t0 FC=>?_,λk0 k1 hk=>?_,λi j k1 hi hj=>?_,λk0 b0 hk t0 FC=>?_⟩
          .rw[htS]at hk;simp only[af]at hk;obtain⟨b,hb,CN⟩:=hk;have hne:k0≠g:=by rintro rfl;rw[dW]at hb;cases hb;cases CN
           cases b<;>simp only[pZ]at CN<;>first|(cases CN;done)|skip
           rename_i lb;cases CN;obtain⟨k',iu,n1,n2,n3⟩:=h.cells _ _ hb;exact⟨k',iu,(hιe _ _ hne).2 n1,dB _ _ _ hne n1 (λ_ _ _ e=>aE) n2,mX K _ _ n3⟩
          .rw[htS]at hk;simp only[af]at hk;obtain⟨b,hb,CN⟩:=hk;cases b<;>simp only[pZ]at CN<;>first|(cases CN;done)|skip
           cases CN;by_cases hg0:k0=g
           grind
           have ht1:=(hιe _ _ hg0).1 FC;obtain⟨n,n1⟩:=h.own _ _ _ hb _ ht1;exact⟨n,(K k0 t0 hg0 ht1).2.1 _ _ _ n1⟩
          rw[htS];by_cases hg0:k0=g;subst hg0;exact⟨_,by rw[dW];rfl,λe=>aE⟩;obtain⟨b,n1,n2⟩:=h.qH _ _ ((hιe _ _ hg0).1 hk);exact⟨_,by rw[n1];rfl,λe=>by cases b<;>first|(exact n2 rfl)|cases e⟩;by_cases hig:i=g<;>by_cases hjg:j=g
          grind
          grind
          grind
          exact h.inj i j k1 ((hιe _ _ hig).1 hi) ((hιe _ _ hjg).1 hj);rw[htS]at hk;simp only[af]at hk;obtain⟨b,hb,CN⟩:=hk;by_cases hne:k0=g;subst hne;rw[dW]at hb;cases hb;subst CN;trivial;have ht1:=(hιe _ _ hne).1 FC;have h1:=h.mp _ _ hb _ ht1;subst CN;cases b with
          |map kt l=>exact dB _ _ _ hne ht1 (λ_ _ _ e=>aE) h1
          |rows t e l z=>obtain⟨q0,q1,ds,q2,q3⟩:=h1;exact⟨q0,q1,ds,dB _ _ _ hne ht1 (λ_ _ _ e=>aE) q2,q3⟩
          |loop=>obtain⟨r,q2,q3⟩:=h1;exact⟨r,dB _ _ _ hne ht1 (λ_ _ _ e=>aE) q2,q3⟩
          |_=>trivial
         by_cases Pu:news.isEmpty=true;have hm:m=[]:=eE (by rw[<-hlb,B6 Pu];rfl);subst hm;have e7:(F9▸([]:List k'.den):List k.den)=[]:=eE (by rw[LX];rfl);refine⟨.sl rows tok f,S,ι,upd w aB nT,hz _ _ (by simp only[jJ,h1,Pu,if_true]),share ι S (λk k' _ hk=>⟨hk,dz rfl⟩) (λ_ _ _=>Iff.rfl) (λ_ _ _ _ _ _ h=>h) (λt ht=>h.own g _ _ dW t ht) (λk k' hk h1 h2=>hk (h.inj _ _ _ h1 h2)),?_,?_,?_,?_,Fr.refl _ _ _,hBm,fP _ _⟩;simp only[RT];rw[e7,iR];exact⟨k3,kap⟩;intro a b pV;unfold upd;rw[if_neg (h.dD hn pV)];exact hw _ _ pV;intro j hj;unfold upd;rw[if_neg hj]
         intro j hj;rw[PI]at hj;cases tok with
         |none=>simp only[bX]at hj;exact⟨⟨nT,ae,by simp[upd,hj]⟩,.inl hj⟩
         |some tk=>simp only[aV,ek,or_false]at hj;rcases hj with rfl|rfl;rcases kap with ⟨h0,-⟩|⟨t0,e0,s0,a1,a2,a3⟩;cases h0;cases a2;exact⟨⟨g,ae,by simp only[upd,h.dD hn a1,if_false];exact hw _ _ a1⟩,.inr ⟨_,a1⟩⟩;exact⟨⟨nT,ae,by simp[upd]⟩,.inl rfl⟩
         rcases kap with ⟨rfl,yx,akI⟩|⟨t0,e0,s0,a1,rfl,a3⟩;have Ga:iY ι S (upd ι g aB) (eF S aB (.tail e' s' ((rows.length+news.length)*s'))) (λk=>k=g):=λk k' hk h2=>⟨by simp only[upd,hk,if_false];exact h2,dz (by rw[bC hn,if_neg (h.dD hn h2)])⟩;refine⟨.sl (rows++news) (some aB) ⟨false,none⟩,eF S aB (.tail e' s' ((rows.length+news.length)*s')),upd ι g aB,λj=>if j=aB then some g else w j,hz _ _ ?_,share _ _ Ga (λk k' hk=>by simp only[upd,hk,if_false]) (λk k' ds hk h2 _ h3=>by rw[bC hn,if_neg (h.dD hn h2)];exact h3) (λt ht=>?_) (λk k' hk h2 h3=>?_),?_,?_,?_,?_,sg hn (acp hB dW),hBm,oC hn⟩;simp only[jJ,h1,Pu,aJ,if_false,h4,aay,if_true,yx,yb,gq];simp only[upd,if_true,aF]at ht;subst ht;exact⟨_,by rw[bC hn,if_pos rfl]⟩;simp only[upd,if_true,aF]at h3;exact h.dD hn h2 h3.symm;simp only[RT];refine⟨ad7,.inr ⟨aB,e',s',by simp[upd],rfl,?_⟩⟩;rw[bC hn,if_pos rfl,cL];intro a b pV;unfold upd at pV;split at pV
         grind
         show(if b=aB then some g else w b)=some a;rw[if_neg (h.dD hn pV)];exact hw _ _ pV
         grind
         grind
         obtain⟨n,a4⟩:=h.own g _ _ dW t0 a1;rw[a3]at a4;cases a4;have hne:t0≠aB:=h.dD hn a1;have hlt:=(aI.1 a3).1;have aR:∀j,j≠t0->(S.set t0 (.tail e' s' ((rows.length+news.length)*s')))[j]? =S[j]? :=λj hj=>by rw[aN,if_neg (Ne.symm hj)]
         have Ga:iY ι S ι (S.set t0 (.tail e' s' ((rows.length+news.length)*s'))) (λk=>k=g):=λk k' hk h2=>⟨h2,dz (by rw[aR k' (λe9=>hk (h.inj _ _ _ h2 (by rw[e9];exact a1)))])⟩;refine⟨.sl (rows++news) (some t0) ⟨false,none⟩,S.set t0 (.tail e' s' ((rows.length+news.length)*s')),ι,λj=>if j=aB then some nT else w j,hz _ _ ?_,share _ _ Ga (λ_ _ _=>Iff.rfl) (λk k' ds hk h2 _ h3=>by rw[aR k' (λe9=>hk (h.inj _ _ _ h2 (by rw[e9];exact a1)))];exact h3) (λt ht=>?_) (λk k' hk h2 h3=>hk (h.inj _ _ _ h2 h3)),?_,?_,?_,?_,AG a1,hBm,Az a3 (λe=>aE)⟩;simp only[jJ,h1,Pu,aJ,if_false,h4,aay,if_true,a3,decide_true,gq]
         grind
         simp only[RT];refine⟨ad7,.inr ⟨t0,e',s',a1,rfl,?_⟩⟩;rw[aN,if_pos rfl,if_pos hlt,cL];intro a b pV;show(if b=aB then some nT else w b)=some a;rw[if_neg (h.dD hn pV)];exact hw _ _ pV
         grind
         intro j hj;rw[PI]at hj;simp only[aV,ek,or_false]at hj;rcases hj with rfl|rfl;exact⟨⟨g,ae,by simp only[hne,if_false];exact hw _ _ a1⟩,.inr ⟨_,a1⟩⟩
         grind
        cases hr
       cases hr
      cases hr
     cases hr
    cases hr
   cases hr
  cases hr
 cases hr
theorem XE(h:bO ι te tS env S)(hB:oy B tS)(hw:Zx ι w)(hT:xx tS nT)(hn:yl S aB)(hr:stepT P ty tt te tS o nT=some r)(hc:r.c):IL P ty aD call yf B ι w env S o aB r:=by
 have pure:(bI P ty tt te tS o).map (λr=>(⟨r.1,te,tS,kS te o,r.2⟩:TR))=some r->(∀j∈gP (ir env) o aB,(∃k∈kS te o,w j=some k)/\(j=aB\/∃i,ι i=some j))->IL P ty aD call yf B ι w env S o aB r:=by intro hp hf;simp only[af]at hp;obtain⟨⟨v,c⟩,h1,rfl⟩:=hp;obtain⟨d,h2,h3⟩:=Lf (aD:=aD) (call:=call) (yf:=yf) (aB:=aB) h.env h.cells h1 hc;exact⟨d,S,ι,w,h2,h,h3,hw,λ_ _=>rfl,hf,Fr.refl _ _ _,hB,fP _ _⟩
 have quiet:gP (ir env) o aB=[]->(∀j∈gP (ir env) o aB,(∃k∈kS te o,w j=some k)/\(j=aB\/∃i,ι i=some j)):=λe j hj=>by rw[e]at hj;cases hj
 cases ho:o.op with
 |alloc e=>simp only[stepT,ho]at hr;split at hr;rename_i k sz z h1;cases hr;refine⟨.ptr aB 0,eF S aB (.cells z),upd ι nT aB,upd w aB nT,by simp only[ah,ho,h1],wU h hT hn (vh z),by simp[RT,upd],qm h hn hT hw,λj hj=>by simp only[upd,hj,if_false],λj hj=>?_,sg hn (ng hB hT),jl hB hT,oC hn⟩;simp only[gP,ho,bX]at hj;exact⟨⟨nT,ae,by simp[upd,hj]⟩,.inl hj⟩;cases hr
 |box t x=>simp only[stepT,ho]at hr;split at hr;rename_i v h1;split at hr;rename_i hk;cases hr;obtain⟨d,k1,k2⟩:=bp h.env h1;refine⟨.ptr aB 0,eF S aB (.cells d.cells),upd ι nT aB,upd w aB nT,by simp only[ah,ho,k1],wU h hT hn (uv hk k2),by simp[RT,upd],qm h hn hT hw,λj hj=>by simp only[upd,hj,if_false],λj hj=>?_,sg hn (ng hB hT),jl hB hT,oC hn⟩;simp only[gP,ho,bX]at hj;exact⟨⟨nT,ae,by simp[upd,hj]⟩,.inl hj⟩;cases hr;cases hr
 |store t a x=>exact XC h hB hw ho hr
 |load t a=>simp only[stepT,ho]at hr;refine pure hr λj hj=>?_;simp only[gP,ho]at hj;split at hj;rename_i iG rV h1;simp only[bX]at hj;subst hj;simp only[af,bI,ho]at hr;obtain⟨q,h2,-⟩:=hr;split at h2;rename_i td id off h3 h4;obtain⟨d,k1,k2⟩:=bp h.env h4;rw[h1]at k1;cases k1;simp only[RT]at k2;exact⟨⟨id,by simp[kS,ho,h4],hw _ _ k2.1⟩,.inr ⟨_,k2.1⟩⟩;rename_i td e l i off h3 h4;obtain⟨d,k1,k2⟩:=bp h.env h4;rw[h1]at k1;cases k1;simp only[RT]at k2;cases h2;rename_i iG n' rV h1;simp only[af,bI,ho]at hr;obtain⟨q,h2,-⟩:=hr;split at h2;rename_i td id off h3 h4;obtain⟨d,k1,k2⟩:=bp h.env h4;rw[h1]at k1;cases k1;simp only[RT]at k2;rename_i td e l i off h3 h4;obtain⟨d,k1,k2⟩:=bp h.env h4;rw[h1]at k1;cases k1;simp only[RT]at k2;cases h2;cases hj
 |call cl=>
  obtain⟨callee,args,argTypes⟩:=cl;cases callee with
  |builtin b=>
   cases b with
   |append=>exact Uf h hB hw hT hn ho hr hc
   |_=>simp only[stepT,ho]at hr;exact pure hr (quiet (by simp only[gP,ho]))
  |_=>simp only[stepT,ho]at hr;exact pure hr (quiet (by simp only[gP,ho]))
 |_=>simp only[stepT,ho]at hr;exact pure hr (quiet (by simp only[gP,ho]))
end Go.Tv
namespace Go.Tv
open Go Go.Di
def RI:TV:=.val (.tuple #[])
def jV(te:cp)(dst:Option Tmp)(v:TV):cp:=
 match dst with
 |some d=>te.set d v
 |none=>te
def dN(ops:Array Oper)(te:cp)(o:Oper):Option Bool:=
 match o.guard with
 |none=>some true
 |some (j,want)=>match(ops[j]?).bind (·.dst)with
  |some d=>match te[d]? with
   |some (.val (.bool b))=>some (match want with|true=>b|false=>!b)
   |some .unk=>none
   |some (.val _)=>some false
   |_=>none
  |none=>some false
def ny(o:Oper):Bool:=
 match o.op with
 |.alloc _|.box .. |.store .. =>true
 |.call {callee:=.builtin .append,.. }=>true
 |_=>false
def afn(o:Oper):Bool:=
 match o.op with
 |.call {callee:=.value _,.. }=>true
 |_=>false
def Ak(tS:cx)(nT:Nat):Bool:=
 match tS[nT]? with
 |some .none=>true
 |none=>nT==tS.length
 |_=>false
section
variable (P:Program) (ty:fo) (tt:TypeId->cJ)
end
section
variable {P:Program} {ty:fo} {tt:TypeId->cJ} {ι ι' w:kW} {S S':aj} {te:cp} {env:cn} {tS:cx} {aD:bT} {call:bg} {yf:dx} {o:Oper} {aB nT:Nat} {B:cy} {r:TR} {ops:Array Oper}
theorem ae3{v:TV}{d:DV}(h:cq ι S te env)(hv:RT ι S v d)(dst:Option Tmp):cq ι S (jV te dst v) (j4 env dst d):=by
 cases dst with
 |none=>exact h
 |some t=>exact I3 t h hv
theorem Nz:RT ι S RI bD:=by simp only[RI,bD,RT]
theorem ia(h:cq ι S te env){b:Bool}(hw:dN ops te o=some b):cv ops env o=b:=by
 unfold dN at hw;unfold cv;split at hw;rename_i e;cases hw;rw[e]
 rename_i j want e;rw[e];dsimp only;split at hw;rename_i d e1;rw[e1];dsimp only;split at hw;rename_i b' e2;cases hw;obtain⟨d',k1,k2⟩:=vk h e2;cases d'<;>simp only[RT]at k2;subst k2;rw[k1];cases b'<;>cases want<;>rfl;cases hw;rename_i v hv e2;cases hw;obtain⟨d',k1,k2⟩:=vk h e2;cases d'<;>simp only[RT]at k2;rw[k2]at k1;rw[k1];cases v<;>first|rfl|exact(hv _ rfl).elim
 cases hw;rename_i e1;cases hw;rw[e1]
theorem abH(h:Ak tS nT=true):xx tS nT:=by
 unfold Ak at h;split at h;rename_i e;exact .inl e
 exact .inr (by simpa using h);cases h
def KI(w:kW)(f ft:cQ):Prop:=(f.wr=true->ft.wr=true)/\∀l,ft.ids=some l->∃m,f.ids=some m/\∀j∈m,∃k∈l,w j=some k
def Does(P:Program)(ty:fo)(aD:bT)(call:bg)(yf:dx)(B:cy)(o:Oper)(nT:Nat)(te:cp)(tS:cx)(dr:Bool)(Q:TV->cp->cx->cQ->Prop):Prop:=
 ∀ι w env S aB,bO ι te tS env S->oy B tS->Zx ι w->xx tS nT->yl S aB->(dr=true->S[aB]? =some .none)->
  ∃d S' ι' w' v bS bK f ft,(dr=false->ah P ty aD call yf (ir env) o S aB=some (d,S'))/\(dr=true->aH P ty aD call yf (ir env) o S aB=some (d,S',f))/\KI w' f ft/\(∀l m,ft.ids=some l->f.ids=some m->∀j∈m,j=aB\/∃i,ι i=some j)/\
   bO ι' bS bK env S'/\RT ι' S' v d/\Zx ι' w'/\(dr=true->∀j,j≠aB->w' j=w j)/\Fr B ι S ι' S'/\oy B bK/\Nn aB S S'/\Q v bS bK ft
theorem lq(h:stepT P ty tt te tS o nT=some r)(hc:r.c)(dr:Bool):Does P ty aD call yf B o nT te tS dr λv bS bK ft=>v=r.v/\bS=r.te/\bK=r.tS/\ft=⟨some r.FP,ny o⟩:=by
 intro ι w env S aB hR hB hw hT hn hS;obtain⟨d,S',ι',w',h1,h2,h3,h4,h5,h6,h7,h8,h9⟩:=XE (aD:=aD) (call:=call) (yf:=yf) hR hB hw hT hn h hc;refine⟨d,S',ι',w',r.v,r.te,r.tS,⟨some (gP (ir env) o aB),ny o⟩,⟨some r.FP,ny o⟩,λ_=>h1,λhd=>?_,⟨id,λl hl=>⟨_,rfl,λj hj=>by cases hl;exact(h6 j hj).1⟩⟩,λl m hl hm j hj=>by cases hm;exact(h6 j hj).2,h2,h3,h4,λ_=>h5,h7,h8,h9,rfl,rfl,rfl,rfl⟩;have dU:=hS hd;cases ho:o.op with
 |alloc e=>simp only[aH,ho,dU,h1,ay,gP,ny]
 |box t x=>simp only[aH,ho,dU,h1,ay,gP,ny]
 |store t a x=>
  have:∃id off,ir env a=some (.ptr id off):=by simp only[ah,ho]at h1;split at h1;rename_i a' v' e1 e2;simp only[af]at h1;obtain⟨q,h1,-⟩:=h1;unfold pG at h1;split at h1;exact⟨_,_,e1⟩;simp only[stepT,ho]at h;split at h;rename_i t1 t2 t3;obtain⟨d9,t4,t5⟩:=bp hR.env t2;rw[e1]at t4;cases t4;simp only[RT]at t5;cases h;cases h1;cases h1
  obtain⟨id,off,e⟩:=this;simp only[aH,ho,e,h1,ay,gP,ny]
 |load t a=>
  cases e:ir env a with
  |none=>simp only[ah,ho,e]at h1;cases h1
  |some da=>cases da<;>simp only[aH,ho,e,h1,ay,gP,ny]
 |makeMap t x=>simp only[stepT,bI,ho,lV]at h;cases h
 |makeSlice t x y=>simp only[stepT,bI,ho,lV]at h;cases h
 |buildSlice t n ps=>
  have hh:ty.h o≠1:=by simp only[stepT,bI,ho]at h;intro e;split at h;split at h;simp[e]at h;cases h;cases h
  simp only[aH,ho,h1,ay,gP,ny]
 |fieldAddr t a f'=>
  cases e:ir env a with
  |none=>simp only[ah,ho,e]at h1;split at h1<;>simp_all
  |some da=>
   cases da with
   |fV id n off=>simp only[stepT,bI,ho]at h;split at h;rename_i t1 t2;obtain⟨d9,t4,t5⟩:=bp hR.env t2;rw[e]at t4;cases t4;simp only[RT]at t5;rename_i t1 t2;obtain⟨d9,t4,t5⟩:=bp hR.env t2;rw[e]at t4;cases t4;simp only[RT]at t5;cases h
   |_=>simp only[aH,ho,e,h1,ay,gP,ny]
 |indexAddr t a i=>
  cases e:ir env a with
  |none=>simp only[ah,ho,e]at h1;split at h1<;>simp_all
  |some da=>
   cases da with
   |jB id n ag=>simp only[stepT,bI,ho]at h;split at h;rename_i t1 t2 t3;simp only[af]at t2;obtain⟨u,t2,t6⟩:=t2;obtain⟨d9,t4,t5⟩:=bp hR.env t2;rw[e]at t4;cases t4;have t7:=cN (tt:=tt) (t:=t) t5;rw[t6]at t7;simp only[RT]at t7;rename_i t1 t2 t3;simp only[af]at t2;obtain⟨u,t2,t6⟩:=t2;obtain⟨d9,t4,t5⟩:=bp hR.env t2;rw[e]at t4;cases t4;have t7:=cN (tt:=tt) (t:=t) t5;rw[t6]at t7;simp only[RT]at t7;rename_i t1 t2 t3;simp only[af]at t2;obtain⟨u,t2,t6⟩:=t2;obtain⟨d9,t4,t5⟩:=bp hR.env t2;rw[e]at t4;cases t4;have t7:=cN (tt:=tt) (t:=t) t5;rw[t6]at t7;simp only[RT]at t7;cases h
   |_=>simp only[aH,ho,e,h1,ay,gP,ny]
 |lookup t m k b=>simp only[stepT,bI,ho,lV]at h;cases h
 |mapUpdate t m k b=>simp only[stepT,bI,ho,lV]at h;cases h
 |call cl=>
  obtain⟨callee,args,argTypes⟩:=cl;cases callee with
  |builtin b=>
   cases b with
   |append=>
    have key:ty.h o≠1/\∀id n ag,(args[0]?).bind (ir env)≠some (.jB id n ag):=by
     simp only[stepT,ho]at h;split at h;rename_i x y t u ha ht;split at h;rename_i Un;refine⟨Un.2,λid n ag he=>?_⟩;have h0:args[0]? =some x:=by rw[<-jL,ha];rfl
     rw[h0]at he
     replace he:ir env x=some (.jB id n ag):=he
     split at h;rename_i t1 t2 t3;simp only[af]at t2;obtain⟨u,t2,t6⟩:=t2;obtain⟨d9,t4,t5⟩:=bp hR.env t2;rw[he]at t4;cases t4;have t7:=cN (tt:=tt) (t:=t) t5;rw[t6]at t7;simp only[RT]at t7;cases h;cases h;cases h
    cases e:(args[0]?).bind (ir env)with
    |none=>simp only[aH,ho,dU,e,h1,ay,gP,ny,if_neg key.1,Dy,aJ,if_false]
    |some da=>
     cases da with
     |sl rows tok f=>cases tok<;>simp only[aH,ho,dU,e,h1,ay,gP,ny,if_neg key.1,Dy,aJ,if_false]
     |jB id n ag=>exact absurd e (key.2 id n ag)
     |_=>simp only[aH,ho,dU,e,h1,ay,gP,ny,if_neg key.1,Dy,aJ,if_false]
   |_=>simp only[aH,ho,h1,ay,gP,ny]
  |value f=>simp only[stepT,bI,ho,lV]at h;cases h
  |_=>simp only[aH,ho,h1,ay,gP,ny]
 |_=>simp only[aH,ho,h1,ay,gP,ny]
def WL(P:Program)(ty:fo)(aD:bT)(call:bg)(yf:dx)(B:cy)(ops:Array Oper)(k:Nat)(te:cp)(tS:cx)(Q:cp->cx->Prop):Prop:=
 ∀ι env S,bO ι te tS env S->oy B tS->∃aL S' ι' bS bK,Ia P ty aD call yf ops (ops.toList.drop k) env S=some (aL,S')/\bO ι' bS bK aL S'/\oy B bK/\Fr B ι S ι' S'/\Nn S.length S S'/\Q bS bK
theorem Nx(h:bO ι te tS env S):∃w,Zx ι w:=by refine⟨λk'=>(Classical.epsilon λo:Option Nat=>∀k,ι k=some k'->o=some k),λk k' hk=>?_⟩;have:∃o:Option Nat,∀j,ι j=some k'->o=some j:=⟨some k,λj hj=>congrArg some (h.inj _ _ _ hk hj)⟩;exact Classical.epsilon_spec this k hk
theorem uz{xh:aj}(h:Nn S.length S S')(k:Nn S'.length S' xh):Nn S.length S xh:=by refine⟨bt h.1 k.1,λj hj hn=>?_⟩;have h1:=h.2 j hj hn;have:=(aI.1 h1).1;exact k.2 j ab h1
theorem oA(h:bO ι te tS env S){v:TV}{d:DV}(hv:RT ι S v d)(dst:Option Tmp):bO ι (jV te dst v) tS (j4 env dst d) S:=⟨ae3 h.env hv dst,h.cells,h.own,h.qH,h.inj,h.mp⟩
theorem oE{k:Nat}(ho:ops[k]? =some o):ops.toList.drop k=o::ops.toList.drop (k+1):=by
 have h:ops.toList[k]? =some o:=by simpa using ho
 obtain⟨hk,rfl⟩:=aI.1 h;exact jM hk
theorem aeD{k:Nat}(hk:ops.size<=k){Q:cp->cx->Prop}(h:Q te tS):WL P ty aD call yf B ops k te tS Q:=by intro ι env S hR hB;rw[hU (by simpa using hk)];exact⟨env,S,ι,te,tS,rfl,hR,hB,Fr.refl _ _ _,fP _ _,h⟩
theorem aaV{k:Nat}(ho:ops[k]? =some o)(hw:dN ops te o=some false){Q:cp->cx->Prop}
  (h:WL P ty aD call yf B ops (k+1) (jV te o.dst RI) tS Q):WL P ty aD call yf B ops k te tS Q:=by
 intro ι env S hR hB;obtain⟨aL,xh,ι'',tK,tL,k1,k2,k3,k4,k5,k6⟩:=h ι (j4 env o.dst bD) S (oA hR Nz _) hB;refine⟨aL,xh,ι'',tK,tL,?_,k2,k3,k4,k5,k6⟩;rw[oE ho];simp only[Ia,ia hR.env hw,aJ,if_false,k1]
theorem MF{k:Nat}{r:List Oper}(h:ops.toList.drop k=o::r):ops[k]? =some o/\r=ops.toList.drop (k+1):=by
 have h1:ops.toList[k]? =some o:=by have:=congrArg (·[0]?) h;simpa using this
 refine⟨by simpa using h1,?_⟩;have:=congrArg List.tail h;simpa using this.symm
end
end Go.Tv
