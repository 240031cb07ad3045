import Derived.Test.YtedcgbkilmlbhaaGreatPk02
namespace Go.Tv
open Go Go.Di
mutual
def uH(g:Nat):TV->TV
 |.sl t l (.iT k)=>if k=g then .sl t l .no else .sl t l (.iT k)
 |.sl t l (.CG _)=>.sl t l .no
 |.ptr id off=>if id=g then .unk else .ptr id off
 |.mp id=>if id=g then .unk else .mp id
 |.so id t=>if id=g then .unk else .so id t
 |.sp id t i off=>if id=g then .unk else .sp id t i off
 |.oz k fn te=>if k=g then .unk else .oz k fn (kL g te)
 |.agg l=>.agg (kL g l)
 |.tup l=>.tup (kL g l)
 |.fn f a b=>.fn f (kL g a) (kL g b)
 |v=>v
def kL(g:Nat):cp->cp
 |[]=>[]
 |a::l=>uH g a::kL g l
end
def qH(g:Nat):TB->TB
 |.cells l=>.cells (kL g l)
 |b=>b
def oC(tS:cx)(i:Nat)(b:TB):cx:=if i<tS.length then tS.set i b else tS++[b]
def adZ:TV->Bool
 |.val v=>!(v matches .tuple _)
 |.unk|.agg _|.tup _=>false
 |_=>true
def Oo{α β:Type}(l:List α)(m:List β):Bool:=
 match l with
 |[]=>true
 |_::_=>match m with
  |[]=>false
  |_::_=>true
theorem YW{α β:Type}{l:List α}{m:List β}(h:Oo l m=true):l.length=0\/m.length≠0:=by unfold Oo at h;cases l<;>cases m<;>simp_all
structure TR where
 v:TV
 te:cp
 tS:cx
 FY:cy
 c:Prop
section
variable (P:Program) (ty:gb) (tt:TypeId->cJ)
def lJ(te:cp)(o:Oper):cy:=
 match o.op with
 |.load _ a=>match fT te a with
  |some (.ptr id _)=>[id]
  |_=>[]
 |_=>[]
def stepT(te:cp)(tS:cx)(o:Oper)(nT:Nat):Option TR:=
 match o.op with
 |.alloc e=>match ty e with
  |some ⟨_,_,some z⟩=>some ⟨.ptr nT 0,te,oC tS nT (.cells (z.map ur)),[nT],True⟩
  |_=>none
 |.box _ x=>match fT te x with
  |some d=>if d.known then some ⟨.ptr nT 0,te,oC tS nT (.cells d.cells),[nT],True⟩else none
  |none=>none
 |.store t a x=>match ty t,fT te a,(fT te x).map (fV tt t)with
  |some d,some (.ptr id off),some v=>match tS[id]? with
   |some (.cells l)=>if v.known&&v.cells.length==d.size&&v.cells.all adZ then(Ny l off v.cells).map λl'=>⟨.unk,te,tS.set id (.cells l'),[id],True⟩else none
   |_=>none
  |_,_,_=>none
 |.call {callee:=.builtin .append,args,argTypes}=>match args.toList,argTypes.toList with
  |[x,y],[t,u]=>if t=u/\ty.h o≠1 then match ty t,(fT te x).map (fV tt t),(fT te y).map (fV tt t)with
   |some ⟨.slice e s mh _,_,_⟩,some (.sl k l ap),some (.sl k' m _)=>match ty e with
    |some ⟨_,_,some _⟩=>if h:k'=k then
     if decide (0<s)&&decide (mh<=100000)&&k.size==s then match ap with
      |.no|.stop _|.CG _=>none
      |.full=>match ty.h o==3 with
       |true=>some ⟨.sl k (l++(h▸m)) (.iT nT),te,oC tS nT (.own e s),[nT],l.length+m.length<=1000000000/\(l.length=0\/m.length≠0)⟩
       |false=>if Oo l m then some ⟨.sl k (l++(h▸m)) (.iT nT),te,oC tS nT (.own e s),[nT],l.length+m.length<=1000000000⟩else none
      |.iT g=>match tS[g]? with
       |some (.own e' s')=>if e'==e&&s'==s then some ⟨.sl k (l++(h▸m)) (.iT g),kL g te,tS.map (qH g),[g,nT],l.length+m.length<=1000000000⟩else none
       |_=>none
     else none
     else none
    |_=>none
   |_,_,_=>none
   else none
  |_,_=>none
 |_=>(bX P ty tt te tS o).map λr=>⟨r.1,te,tS,lJ te o,r.2⟩
end
def iD(ρ:Operand->Option DV)(o:Oper)(aC:Nat):cy:=
 match o.op with
 |.alloc _|.box .. =>[aC]
 |.store _ a _=>match ρ a with
  |some (.ptr id _)=>[id]
  |_=>[]
 |.load _ a=>match ρ a with
  |some (.ptr id _)=>[id]
  |some (.gF id _ _)=>[id]
  |_=>[]
 |.call {callee:=.builtin .append,args,.. }=>match(args[0]?).bind ρ with
  |some (.sl _ (some t) _)=>[t,aC]
  |_=>[aC]
 |_=>[]
def Gp:(t:TT)->t.den->List Value
 |.int k,n=>[.int k n]
 |.bool,b=>[.bool b]
 |.str,s=>[.string s]
 |.unit,_=>[]
 |.pair a b,x=>Gp a x.1++Gp b x.2
 |.sl _,_=>[]
def Kz(t:TT)(x:t.den):Value:=.agg (Gp t x).toArray
def CW(t:TT)(l:List t.den):List (Value×Value):=l.map λx=>(Kz t x,.bool true)
def fW(t:TT):List t.den->cj->Prop
 |[],ds=>ds=[]
 |x::l,ds=>∃c m,ds=c++m/\CR t x c/\fW t l m
def aeK:TB->Option DB->Prop
 |.map kt l,b=>b=some (.map (CW kt l))
 |.rows t e l z,b=>0<t.size/\(t.agg||t.size==1)=true/\∃ds,b=some (.op e t.size ds z)/\fW t l ds
 |.loop,b=>∃r,b=some (.loop r)/\r.st=.ready/\r.kI=none
 |_,_=>True
structure bZ (ι:lp) (te:cp) (tS:cx) (env:cj) (S:ai):Prop where
 env:cO ι S te env
 cells:I9 ι S tS
 own:∀k e s,tS[k]? =some (.own e s)->∀t,ι k=some t->∃n,S[t]? =some (.tail e s n)
 qB:∀k k',ι k=some k'->∃b,tS[k]? =some b/\b≠.none
 inj:∀i j k',ι i=some k'->ι j=some k'->i=j
 mp:∀k b,tS[k]? =some b->∀t,ι k=some t->aeK b S[t]?
def ZC(ι:lp)(w:lp):Prop:=∀k k',ι k=some k'->w k'=some k
section
variable {P:Program} {ty:gb} {tt:TypeId->cJ} {ι ι' w:lp} {S S':ai} {te:cp} {env:cj} {tS:cx} {aI:b9} {call:bG} {yf:ez} {o:Oper} {aC nT:Nat} {r:TR}
def Ou(a b:Option DB):Prop:=(∀e s n,a=some (.tail e s n)->b=some (.tail e s n))/\(∀e s l z,a=some (.op e s l z)->∃l' z',b=some (.op e s l' z')/\l'.length=l.length)/\∀r,a=some (.loop r)->b=some (.loop r)
theorem ei{a b:Option DB}(h:b=a):Ou a b:=by subst h;exact⟨λ_ _ _ h=>h,λ_ _ l z h=>⟨l,z,h,rfl⟩,λ_ h=>h⟩
theorem wu{a b:Option DB}(h1:∀e s n,a≠some (.tail e s n))(h2:∀e s l z,a≠some (.op e s l z))(h3:∀r,a≠some (.loop r)):Ou a b:=⟨λ_ _ _ h=>absurd h (h1 _ _ _),λ_ _ _ _ h=>absurd h (h2 _ _ _ _),λ_ h=>absurd h (h3 _)⟩
def jE(ι:lp)(S:ai)(ι':lp)(S':ai)(bad:Nat->Prop):Prop:=∀k k',¬bad k->ι k=some k'->ι' k=some k'/\Ou S[k']? S'[k']?
theorem RH{n:Nat}{tok:Option Nat}{f:SF}{ap:Ap}{bad:Nat->Prop}(h:jE ι S ι' S' bad)(hb:∀g,ap=.iT g\/ap=.CG g->¬bad g)(k:pU ι S n tok f ap):pU ι' S' n tok f ap:=by
 cases ap with
 |no=>trivial
 |full=>exact k
 |iT g=>refine k.imp id λ⟨t,e,s,h1,h2,h3⟩=>?_;obtain⟨h4,h5⟩:=h g t (hb g (.inl rfl)) h1;exact⟨t,e,s,h4,h2,h5.1 _ _ _ h3⟩
 |stop b=>trivial
 |CG g=>refine k.imp id λ⟨t,e,s,h1,h2,h3⟩=>?_;obtain⟨h4,h5⟩:=h g t (hb g (.inr rfl)) h1;exact⟨t,e,s,h4,h2,h5.1 _ _ _ h3⟩
mutual
theorem abo(h:jE ι S ι' S' λ_=>False):∀(v:TV)(d:DV),RT ι S v d->RT ι' S' v d
 |.unk,_,_=>by simp only[RT]
 |.val _,d,k=>by cases d<;>simp only[RT]at k⊢;exact k
 |.ax,d,k=>by cases d<;>simp only[RT]at k⊢;exact k
 |.agg l,d,k=>by cases d<;>simp only[RT]at k⊢;exact bH h l _ k
 |.tup l,d,k=>by cases d<;>simp only[RT]at k⊢;exact bH h l _ k
 |.sl t l ap,d,k=>by cases d<;>simp only[RT]at k⊢;exact⟨k.1,RH h (λ_ _=>id) k.2⟩
 |.ptr id off,d,k=>by cases d<;>simp only[RT]at k⊢;exact⟨(h _ _ (λe=>e) k.1).1,k.2⟩
 |.fM t l i off,d,k=>by cases d<;>simp only[RT]at k⊢;exact k
 |.mp id,d,k=>by cases d<;>simp only[RT]at k⊢;exact(h _ _ (λe=>e) k).1
 |.so g t,d,k=>by cases d<;>simp only[RT]at k⊢;obtain⟨k1,k2,e,s,l,z,k3,k4⟩:=k;obtain⟨h1,h2⟩:=h _ _ (λe=>e) k1;obtain⟨l',z',h3,h4⟩:=h2.2.1 e s l z k3;exact⟨h1,k2,e,s,l',z',h3,ab⟩
 |.oz k0 fn te,d,k=>by cases d<;>simp only[RT]at k⊢;obtain⟨k1,ps,a,b,env,BS,k4,k2,k3⟩:=k;obtain⟨h1,h2⟩:=h _ _ (λe=>e) k1;exact⟨h1,ps,a,b,env,BS,k4,h2.2.2 _ k2,bH h te env k3⟩
 |.sp g t i off,d,k=>by cases d<;>simp only[RT]at k⊢;obtain⟨k1,k2,e,s,l,z,k3,k4,k5⟩:=k;obtain⟨h1,h2⟩:=h _ _ (λe=>e) k1;obtain⟨l',z',h3,h4⟩:=h2.2.1 e s l z k3;exact⟨h1,k2,e,s,l',z',h3,ab,ab⟩
 |.fn f a b,d,k=>by cases d<;>simp only[RT]at k⊢;exact⟨k.1,bH h a _ k.2.1,bH h b _ k.2.2⟩
theorem bH(h:jE ι S ι' S' λ_=>False):∀(l:cp)(m:cj),cO ι S l m->cO ι' S' l m
 |[],m,k=>by rw[aQ k];exact bS
 |a::l,m,k=>by obtain⟨d,m',rfl,h1,h2⟩:=aj k;exact aR (abo h a d h1) (bH h l m' h2)
end
mutual
theorem afH{g:Nat}(h:jE ι S ι' S' λk=>k=g):∀(v:TV)(d:DV),RT ι S v d->RT ι' S' (uH g v) d
 |.unk,_,_=>by simp only[uH,RT]
 |.val _,d,k=>by cases d<;>simp only[RT,uH]at k⊢;exact k
 |.ax,d,k=>by cases d<;>simp only[RT,uH]at k⊢;exact k
 |.agg l,d,k=>by cases d<;>simp only[RT,uH]at k⊢;exact nI h l _ k
 |.tup l,d,k=>by cases d<;>simp only[RT,uH]at k⊢;exact nI h l _ k
 |.sl t l .no,d,k=>by cases d<;>simp only[RT,uH]at k⊢;exact⟨k.1,trivial⟩
 |.sl t l .full,d,k=>by cases d<;>simp only[RT,uH]at k⊢;exact k
 |.sl t l (.stop _),d,k=>by cases d<;>simp only[RT,uH]at k⊢;exact⟨k.1,trivial⟩
 |.sl t l (.CG _),d,k=>by cases d<;>simp only[RT,uH]at k⊢;exact⟨k.1,trivial⟩
 |.sl t l (.iT j),d,k=>by
  cases d<;>simp only[RT]at k;simp only[uH];split;simp only[RT];exact⟨k.1,trivial⟩
  rename_i hj;simp only[RT];exact⟨k.1,RH h (λg' e=>by rcases e with e|e<;>cases e;exact hj) k.2⟩
 |.ptr id off,d,k=>by cases d<;>simp only[RT]at k;simp only[uH];split;simp only[RT];rename_i hj;simp only[RT];exact⟨(h _ _ hj k.1).1,k.2⟩
 |.fM t l i off,d,k=>by cases d<;>simp only[RT,uH]at k⊢;exact k
 |.mp id,d,k=>by cases d<;>simp only[RT]at k;simp only[uH];split;simp only[RT];rename_i hj;simp only[RT];exact(h _ _ hj k).1
 |.so j t,d,k=>by cases d<;>simp only[RT]at k;simp only[uH];split;simp only[RT];rename_i hj;simp only[RT];obtain⟨k1,k2,e,s,l,z,k3,k4⟩:=k;obtain⟨h1,h2⟩:=h _ _ hj k1;obtain⟨l',z',h3,h4⟩:=h2.2.1 e s l z k3;exact⟨h1,k2,e,s,l',z',h3,ab⟩
 |.oz k0 fn te,d,k=>by cases d<;>simp only[RT]at k;simp only[uH];split;simp only[RT];rename_i hj;simp only[RT];obtain⟨k1,ps,a,b,env,BS,k4,k2,k3⟩:=k;obtain⟨h1,h2⟩:=h _ _ hj k1;exact⟨h1,ps,a,b,env,BS,k4,h2.2.2 _ k2,nI h te env k3⟩
 |.sp j t i off,d,k=>by cases d<;>simp only[RT]at k;simp only[uH];split;simp only[RT];rename_i hj;simp only[RT];obtain⟨k1,k2,e,s,l,z,k3,k4,k5⟩:=k;obtain⟨h1,h2⟩:=h _ _ hj k1;obtain⟨l',z',h3,h4⟩:=h2.2.1 e s l z k3;exact⟨h1,k2,e,s,l',z',h3,ab,ab⟩
 |.fn f a b,d,k=>by cases d<;>simp only[RT,uH]at k⊢;exact⟨k.1,nI h a _ k.2.1,nI h b _ k.2.2⟩
theorem nI{g:Nat}(h:jE ι S ι' S' λk=>k=g):∀(l:cp)(m:cj),cO ι S l m->cO ι' S' (kL g l) m
 |[],m,k=>by rw[aQ k];simp only[kL];exact bS
 |a::l,m,k=>by obtain⟨d,m',rfl,h1,h2⟩:=aj k;simp only[kL];exact aR (afH h a d h1) (nI h l m' h2)
end
def xV(tS:cx)(nT:Nat):Prop:=tS[nT]? =some .none\/nT=tS.length
def yU(S:ai)(aC:Nat):Prop:=S[aC]? =some .none\/aC=S.length
theorem dh{b:TB}(h:xV tS nT)(j:Nat):(oC tS nT b)[j]? =if j=nT then some b else tS[j]? :=by
 unfold oC;rcases h with h|h
 grind
 grind
theorem bN{b:DB}(h:yU S aC)(j:Nat):(fu S aC b)[j]? =if j=aC then some b else S[j]? :=by
 unfold fu;rcases h with h|h
 grind
 grind
def upd(ι:lp)(k k':Nat):lp:=λj=>if j=k then some k' else ι j
theorem bZ.live (h:bZ ι te tS env S){k k':Nat}(hk:ι k=some k'):∃b,S[k']? =some b/\b≠.none:=by
 obtain⟨b,h1,h2⟩:=h.qB k k' hk;cases b with
 |none=>exact(h2 rfl).elim
 |cells l=>obtain⟨k'',ds,h3,h4,-⟩:=h.cells k l h1;rw[hk]at h3;cases h3;exact⟨_,h4,λe=>ar⟩
 |own e s=>obtain⟨n,h3⟩:=h.own k e s h1 k' hk;exact⟨_,h3,λe=>ar⟩
 |map kt l=>exact⟨_,h.mp k _ h1 k' hk,λe=>ar⟩
 |rows t e l z=>obtain⟨-,-,ds,h3,-⟩:=h.mp k _ h1 k' hk;exact⟨_,h3,λe=>ar⟩
 |loop=>obtain⟨r,h3,-⟩:=h.mp k _ h1 k' hk;exact⟨_,h3,λe=>ar⟩
theorem bZ.en (h:bZ ι te tS env S)(hn:yU S aC){k k':Nat}(hk:ι k=some k'):k'≠aC:=by
 rintro rfl;obtain⟨b,h1,h2⟩:=h.live hk;rcases hn with hn|hn
 grind
 grind
theorem bZ.new (h:bZ ι te tS env S)(hn:xV tS nT):ι nT=none:=by
 cases hk:ι nT with
 |none=>rfl
 |some k'=>
  obtain⟨b,h1,h2⟩:=h.qB _ _ hk;rcases hn with hn|hn
  grind
  grind
theorem sM(h:bZ ι te tS env S)(hT:xV tS nT)(hn:yU S aC)(b:DB):jE ι S (upd ι nT aC) (fu S aC b) λ_=>False:=by
 intro k k' _ hk;have h1:k≠nT:=by rintro rfl;rw[h.new hT]at hk;cases hk
 exact⟨by simp only[upd,h1,if_false];exact hk,ei (by rw[bN hn,if_neg (h.en hn hk)])⟩
theorem qQ(h:bZ ι te tS env S)(hn:yU S aC)(hT:xV tS nT)(hw:ZC ι w):ZC (upd ι nT aC) (upd w aC nT):=by
 intro k k' hk;unfold upd at hk⊢;split at hk
 grind
 rw[if_neg (h.en hn hk)];exact hw k k' hk
theorem xF(h:bZ ι te tS env S)(hT:xV tS nT)(hn:yU S aC){ts:cp}{ds:cj}(hc:cO ι S ts ds):bZ (upd ι nT aC) te (oC tS nT (.cells ts)) env (fu S aC (.cells ds)):=by
 have K:=sM h hT hn (.cells ds);refine⟨bH K _ _ h.env,λk l hk=>?_,λk e s hk t ht=>?_,λk k' hk=>?_,λi j k' hi hj=>?_,λk b hk t ht=>?_⟩;rw[dh hT]at hk;split at hk;rename_i e;subst e;cases hk;exact⟨aC,ds,by simp[upd],by rw[bN hn,if_pos rfl],bH K _ _ hc⟩;rename_i e;obtain⟨k',iL,h1,h2,h3⟩:=h.cells k l hk;exact⟨k',iL,by simp only[upd,e,if_false];exact h1,by rw[bN hn,if_neg (h.en hn h1)];exact h2,bH K _ _ h3⟩;rw[dh hT]at hk;split at hk;cases hk;rename_i e';simp only[upd,e',if_false]at ht;obtain⟨n,h1⟩:=h.own k e s hk t ht;exact⟨n,by rw[bN hn,if_neg (h.en hn ht)];exact h1⟩;rw[dh hT];split
 grind
 rename_i e;simp only[upd,e,if_false]at hk;exact h.qB k k' hk;unfold upd at hi hj;split at hi<;>split at hj;omega;cases hi;exact(h.en hn hj rfl).elim
 cases hj;exact(h.en hn hi rfl).elim
 exact h.inj i j k' hi hj;rw[dh hT]at hk;split at hk;cases hk;trivial
 rename_i e';simp only[upd,e',if_false]at ht;rw[bN hn,if_neg (h.en hn ht)];exact h.mp k b hk t ht
theorem E7(h:bZ ι te tS env S)(hT:xV tS nT){e s:Nat}:bZ ι te (oC tS nT (.own e s)) env S:=by
 refine⟨h.env,λk0 l0 hk=>?_,λk0 e0 s0 hk t0 Ia=>?_,λk0 k1 hk=>?_,h.inj,λk0 b0 hk t0 Ia=>?_⟩;rw[dh hT]at hk;split at hk;cases hk;exact h.cells _ _ hk;rw[dh hT]at hk;split at hk;rename_i e5;subst e5;rw[h.new hT]at Ia;cases Ia
 exact h.own _ _ _ hk _ Ia;rw[dh hT];split
 grind
 exact h.qB _ _ hk;rw[dh hT]at hk;split at hk;cases hk;trivial
 exact h.mp _ _ hk _ Ia
theorem Cp(h:bZ ι te tS env S)(hT:xV tS nT)(hn:yU S aC)(e s n:Nat):bZ (upd ι nT aC) te (oC tS nT (.own e s)) env (fu S aC (.tail e s (n*s))):=by
 refine⟨bH (sM h hT hn _) _ _ h.env,λk0 l0 hk=>?_,λk0 e0 s0 hk t0 Ia=>?_,λk0 k1 hk=>?_,λi j k1 hi hj=>?_,λk0 b0 hk t0 Ia=>?_⟩;rw[dh hT]at hk;split at hk;cases hk;rename_i e5;obtain⟨k',iL,n1,n2,n3⟩:=h.cells _ _ hk;exact⟨k',iL,by simp only[upd,e5,if_false];exact n1,by rw[bN hn,if_neg (h.en hn n1)];exact n2,bH (sM h hT hn _) _ _ n3⟩;rw[dh hT]at hk;split at hk;rename_i e5;cases hk;simp only[upd,e5,if_true,aG]at Ia;subst Ia;exact⟨_,by rw[bN hn,if_pos rfl]⟩;rename_i e5;simp only[upd,e5,if_false]at Ia;obtain⟨n,n1⟩:=h.own _ _ _ hk _ Ia;exact⟨n,by rw[bN hn,if_neg (h.en hn Ia)];exact n1⟩;rw[dh hT];split
 grind
 rename_i e5;simp only[upd,e5,if_false]at hk;exact h.qB _ _ hk;unfold upd at hi hj;split at hi<;>split at hj;omega;cases hi;exact(h.en hn hj rfl).elim
 cases hj;exact(h.en hn hi rfl).elim
 exact h.inj i j k1 hi hj;rw[dh hT]at hk;split at hk;cases hk;trivial
 rename_i e5;simp only[upd,e5,if_false]at Ia;rw[bN hn,if_neg (h.en hn Ia)];exact h.mp _ _ hk _ Ia
def Lv(S:ai)(i:Nat):Prop:=∃b,S[i]? =some b/\b≠.none
structure Fr (B:cy) (ι:lp) (S:ai) (ι':lp) (S':ai):Prop where
 rest:∀k',Lv S k'->(∀k,ι k≠some k')->S'[k']? =S[k']?
 ours:∀k k',ι' k=some k'->(∃j,ι j=some k')\/¬Lv S k'
 base:∀k,k∈B->ι' k=ι k
def lI:Option cp->TB
 |some l=>.cells l
 |none=>.loop
def oT(B:cy)(tS:cx):Prop:=∀k,k∈B->∃l,tS[k]? =some (lI l)
theorem Fr.refl (B:cy)(ι:lp)(S:ai):Fr B ι S ι S:=⟨λ_ _ _=>rfl,λk _ h=>.inl ⟨k,h⟩,λ_ _=>rfl⟩
theorem Fr.trans {B:cy}{ι'':lp}{xM:ai}(h:Fr B ι S ι' S')(k:Fr B ι' S' ι'' xM):Fr B ι S ι'' xM where
 rest:=λk' hl hn=>by
  have h1:=h.rest k' hl hn;have kP:Lv S' k':=by obtain⟨b,h2,h3⟩:=hl;exact⟨b,h1.trans h2,h3⟩
  refine(k.rest k' kP λj hj=>?_).trans h1;rcases h.ours j k' hj with ⟨i,h2⟩|h2
  grind
  grind
 ours:=λj k' hj=>by
  rcases k.ours j k' hj with ⟨i,h1⟩|h1;exact h.ours i k' h1;by_cases hl:Lv S k';by_cases hn:∃j,ι j=some k'
  grind
  refine(h1 ?_).elim;obtain⟨b,h2,h3⟩:=hl;exact⟨b,(h.rest k' ⟨b,h2,h3⟩ λi hi=>hn ⟨i,hi⟩).trans h2,h3⟩
  grind
 base:=λj hj=>(k.base j hj).trans (h.base j hj)
theorem Av(hn:yU S aC):¬Lv S aC:=by
 rintro⟨b,h1,h2⟩;rcases hn with hn|hn
 grind
 grind
theorem tc{B:cy}{g:Nat}{b:DB}(hn:yU S aC)(hg:g∉B):Fr B ι S (upd ι g aC) (fu S aC b) where
 rest:=λk' hl _=>by rw[bN hn,if_neg];rintro rfl;exact Av hn hl
 ours:=λk k' hk=>by
  unfold upd at hk;split at hk;cases hk;exact .inr (Av hn)
  grind
 base:=λk hk=>by unfold upd;rw[if_neg (λe:k=g=>hg (e▸hk))]
theorem Ba{B:cy}{k0 id:Nat}{b:DB}(hk:ι k0=some id):Fr B ι S ι (S.set id b) where
 rest:=λk' _ hn=>by rw[aS,if_neg];rintro rfl;exact hn k0 hk
 ours:=λk _ h=>.inl ⟨k,h⟩
 base:=λ_ _=>rfl
theorem nM{B:cy}(hB:oT B tS)(hT:xV tS nT):nT∉B:=by
 intro hlt;obtain⟨l,h1⟩:=hB _ hlt;rcases hT with hT|hT;rw[hT]at h1;cases l<;>cases h1
 grind
theorem jM{B:cy}{b:TB}(hB:oT B tS)(hT:xV tS nT):oT B (oC tS nT b):=by intro k hk;have:=nM hB hT;rw[dh hT,if_neg (λe:k=nT=>this (e▸hk))];exact hB k hk
theorem acD{B:cy}{g e s:Nat}(hB:oT B tS)(h:tS[g]? =some (.own e s)):g∉B:=by intro hlt;obtain⟨l,h1⟩:=hB _ hlt;rw[h]at h1;cases l<;>cases h1
def Nn(i:Nat)(S S':ai):Prop:=S.length<=S'.length/\∀j,j≠i->S[j]? =some .none->S'[j]? =some .none
theorem gA(i:Nat)(S:ai):Nn i S S:=⟨ak _,λ_ _ h=>h⟩
theorem o6{b:DB}(hn:yU S aC):Nn aC S (fu S aC b):=by refine⟨?_,λj hj h=>by rw[bN hn,if_neg hj];exact h⟩;unfold fu;split<;>simp
theorem A5{i id:Nat}{b b':DB}(h:S[id]? =some b)(hb:b≠.none):Nn i S (S.set id b'):=by
 refine⟨ae,λj _ hj=>?_⟩;rw[aS,if_neg];exact hj
 grind
end
end Go.Tv
namespace Go.Tv
open Go Go.Di
variable {P:Program} {ty:gb} {tt:TypeId->cJ} {ι ι' w:lp} {S S':ai} {te:cp} {env:cj} {tS:cx} {aI:b9} {call:bG} {yf:ez} {o:Oper} {aC nT:Nat} {B:cy} {r:TR}
theorem WE:∀{l:cp}{m:cj},cO ι S l m->l.all adZ=true->m.all DV.one=true
 |[],m,h,_=>by rw[aQ h];rfl
 |a::l,m,h,k=>by obtain⟨d,m',rfl,h1,h2⟩:=aj h;simp only[cC,aD]at k⊢;refine⟨?_,WE h2 k.2⟩;cases a<;>cases d<;>simp only[RT]at h1<;>first|rfl|(cases k.1;done)|(subst h1;exact k.1)
def I8(P:Program)(ty:gb)(aI:b9)(call:bG)(yf:ez)(B:cy)(ι w:lp)(env:cj)(S:ai)(o:Oper)(aC:Nat)(r:TR):Prop:=
 ∃d S' ι' w',af P ty aI call yf (jA env) o S aC=some (d,S')/\bZ ι' r.te r.tS env S'/\RT ι' S' r.v d/\ZC ι' w'/\(∀j,j≠aC->w' j=w j)/\(∀j∈iD (jA env) o aC,(∃k∈r.FY,w' j=some k)/\(j=aC\/∃i,ι i=some j))/\Fr B ι S ι' S'/\oT B r.tS/\Nn aC S S'
theorem XD(h:bZ ι te tS env S)(hB:oT B tS)(hw:ZC ι w){t:TypeId}{a x:Operand}(ho:o.op=.store t a x)(hr:stepT P ty tt te tS o nT=some r):I8 P ty aI call yf B ι w env S o aC r:=by
 simp only[stepT,ho]at hr;split at hr;rename_i td id off v h1 h2 h3;split at hr;rename_i l h4;split at hr;rename_i hc;simp only[aD,ee]at hc;obtain⟨⟨c1,c2⟩,c3⟩:=hc;simp only[ah]at hr h3;obtain⟨l',h5,rfl⟩:=hr;obtain⟨u,h6,h7⟩:=h3;obtain⟨da,k1,k2⟩:=bL h.env h2;cases da<;>simp only[RT]at k2;rename_i jf s6;obtain⟨k3,rfl⟩:=k2;obtain⟨d,k4,k5⟩:=bL h.env h6;have k6:=dn (tt:=tt) (t:=t) k5;rw[h7]at k6;have k7:=vt c1 k6;obtain⟨akv,ds,m1,m2,m3⟩:=h.cells id l h4;rw[k3]at m1;cases m1;obtain⟨iL,m4,m5⟩:=Jr m3 k7 h5;have K:jE ι S ι (S.set jf (.cells iL)) λ_=>False:=λk k' _ hk=>⟨hk,by
  rw[aS];split;rename_i e1;subst e1;exact wu (by rw[m2];simp) (by rw[m2];simp) (by rw[m2];simp)
  exact ei rfl⟩
 have hlt:=(aM.1 m2).1;refine⟨bK,S.set jf (.cells iL),ι,w,?_,?_,by simp only[RT],hw,λ_ _=>rfl,?_,Ba k3,?_,A5 m2 (λe=>ar)⟩;have e1:d.cells.length=td.size:=by rw[gN k7];exact c2
 simp only[af,ho,k1,k4,qi,h1,m2,e1,WE k7 c3,decide_true,jo,if_true,m4,az];refine⟨bH K _ _ h.env,λk l0 hk=>?_,λk e s hk t0 ht=>?_,λk k' hk=>?_,h.inj,λk b0 hk t0 ht=>?_⟩;simp only[aS]at hk;split at hk;rename_i e1;subst e1;split at hk;cases hk;exact⟨jf,iL,k3,by rw[aS,if_pos rfl,if_pos hlt],bH K _ _ m5⟩;cases hk;rename_i e1;obtain⟨k',Nv,n1,n2,n3⟩:=h.cells k l0 hk;refine⟨k',Nv,n1,?_,bH K _ _ n3⟩;rw[aS,if_neg ?_];exact n2;rintro rfl;exact e1 (h.inj _ _ _ k3 n1)
 simp only[aS]at hk;split at hk
 grind
 obtain⟨n,n1⟩:=h.own k e s hk t0 ht;exact⟨n,(K k t0 (λe=>e) ht).2.1 _ _ _ n1⟩;simp only[aS];split
 grind
 exact h.qB k k' hk;simp only[aS]at hk;split at hk;split at hk<;>cases hk;trivial;rename_i e1;rw[aS,if_neg];exact h.mp k b0 hk t0 ht;rintro rfl;exact e1 (h.inj _ _ _ k3 ht)
 intro j hj;simp only[iD,ho,k1,bV]at hj;subst hj;exact⟨⟨id,ae,hw _ _ k3⟩,.inr ⟨_,k3⟩⟩;intro k hk;simp only[aS];split;rename_i e1;subst e1;exact⟨some _,if_pos (aM.1 h4).1⟩;exact hB k hk;cases hr;cases hr;cases hr
theorem SP{k k':TT}(h:k'=k){m:List k'.den}{rows:cj}(hr:eX (CR k') k'.agg m rows):eX (CR k) k.agg (h▸m) rows:=by grind
theorem Mw{k k':TT}(h:k'=k)(m:List k'.den):(h▸m:List k.den).length=m.length:=by grind
theorem Cv{rows:cj}(h:rows.isEmpty=true):rows=[]:=Ds.1 h
theorem Uk(h:bZ ι te tS env S)(hB:oT B tS)(hw:ZC ι w)(hT:xV tS nT)(hn:yU S aC){args:Array Operand}{argTypes:Array TypeId}(ho:o.op=.call {callee:=.builtin .append,args,argTypes})(hr:stepT P ty tt te tS o nT=some r)(hc:r.c):I8 P ty aI call yf B ι w env S o aC r:=by
 simp only[stepT,ho]at hr;split at hr
 .rename_i x y t u ha ht;split at hr
  .rename_i Ut;obtain⟨Ut,hh⟩:=Ut;subst Ut;split at hr
   .rename_i e s mh ag sz z0 k l ap k' m _ h1 h2 h3;split at hr
    .rename_i k0 sz' z h4;split at hr
     .rename_i Gj;split at hr
      .rename_i qd;simp only[aD,ee,cA]at qd;obtain⟨⟨c1,c2⟩,c3⟩:=qd;simp only[ah]at h2 h3;obtain⟨ux,e1,e2⟩:=h2;obtain⟨uy,e3,e4⟩:=h3;obtain⟨da,k1,k2⟩:=bL h.env e1;have k3:=dn (tt:=tt) (t:=t) k2;rw[e2]at k3;obtain⟨db,k4,k5⟩:=bL h.env e3;have k6:=dn (tt:=tt) (t:=t) k5;rw[e4]at k6;cases da<;>simp only[RT]at k3;rename_i rows tok f;cases db<;>simp only[RT]at k6;rename_i news ai0 f';obtain⟨k3,kap⟩:=k3;obtain⟨k6,-⟩:=k6;have hla:=kZ k3;have hlb:=kZ k6;have k6':=SP Gj k6;have aep:=Ck k3 k6';have hb1:(rows.all λr=>decide (r.cells.length=s))=true:=aX.2 λr hr=>iN ((jQ k3 r hr).trans c3);have Ku:(news.all λr=>decide (r.cells.length=s))=true:=aX.2 λr hr=>iN ((jQ k6' r hr).trans c3);have hx:(args[0]?).bind (jA env)=some (.sl rows tok f):=by
        have:args[0]? =some x:=by rw[<-kg,ha];rfl
        rw[this];exact k1
       have PL:iD (jA env) o aC=match tok with|some t=>[t,aC]|none=>[aC]:=by simp only[iD,ho,hx];cases tok<;>rfl
       have aaw:l.length+m.length<=1000000000->(decide (0<s)&&decide ((rows.length+news.length)*mh<=ga)&&decide (rows.length+news.length<=140737488355328-4096)&&news.all (λr=>decide (r.cells.length=s)))=true:=by
        intro hle;simp only[aD,cA];rw[hla,hlb];refine⟨⟨⟨c1,?_⟩,ab⟩,Ku⟩
        calc (l.length+m.length)*mh<=1000000000*100000:=Nat.mul_le_mul hle c2
         _<=ga:=an
       have hz:∀d S',j6 ty S aC t (.sl rows tok f) (.sl news ai0 f')=some (d,S')->af P ty aI call yf (jA env) o S aC=some (d,S'):=by intro d S' hd;simp only[af,ho,ha,ht,if_true,k1,k4,hd]
       split at hr;cases hr;cases hr;cases hr;obtain⟨c0,Kq,hc0,af4⟩:∃c,r=⟨.sl k (l++(Gj▸m)) (.iT nT),te,oC tS nT (.own e s),[nT],c⟩/\(l.length+m.length<=1000000000)/\(l.length=0\/m.length≠0):=by
        split at hr
        grind
        split at hr;rename_i hf;cases hr;exact⟨_,rfl,hc,YW hf⟩
        cases hr
       subst Kq;obtain⟨rfl,yX⟩:=kap;have aaA:=aaw hc0;by_cases Pt:news.isEmpty=true;have hm:m=[]:=eR (by rw[<-hlb,Cv Pt];rfl);subst hm;refine⟨.sl rows none f,S,ι,upd w aC nT,hz _ _ (by simp only[j6,h1,Pt,if_true]),?_,?_,?_,?_,?_,Fr.refl _ _ _,jM hB hT,gA _ _⟩;exact E7 h hT;simp only[RT];have hl0:l=[]:=by grind
       refine⟨?_,.inl ⟨rfl,yX,by rw[hla,hl0];rfl⟩⟩;have e7:(Gj▸([]:List k'.den):List k.den)=[]:=eR (by rw[Mw];rfl);rw[e7,dW];exact k3;intro a b qA;unfold upd;rw[if_neg (h.en hn qA)];exact hw _ _ qA;intro j hj;unfold upd;rw[if_neg hj]
       intro j hj;rw[PL,bV]at hj;exact⟨⟨nT,ae,by simp[upd,hj]⟩,.inl hj⟩
       skip
       refine⟨.sl (rows++news) (some aC) ⟨false,none⟩,fu S aC (.tail e s ((rows.length+news.length)*s)),upd ι nT aC,upd w aC nT,hz _ _ ?_,?_,?_,qQ h hn hT hw,?_,?_,tc hn (nM hB hT),jM hB hT,o6 hn⟩;simp only[j6,h1,Pt,aK,if_false,h4,aaA,if_true,yX,hb1,jo];exact Cp h hT hn e s _;simp only[RT];refine⟨aep,.inr ⟨aC,e,s,by simp[upd],rfl,?_⟩⟩;rw[bN hn,if_pos rfl,cn];intro j hj;unfold upd;rw[if_neg hj]
       intro j hj;rw[PL,bV]at hj;exact⟨⟨nT,ae,by simp[upd,hj]⟩,.inl hj⟩;rename_i g;split at hr
       .rename_i e' s' gC;split at hr
        .rename_i hes;simp only[aD,ee]at hes;obtain⟨rfl,rfl⟩:=hes;simp only[aG]at hr;subst hr;have aaA:=aaw hc;have htS:∀j,(tS.map (qH g))[j]? =(tS[j]?).map (qH g):=λj=>dG ..;have hgn:g≠nT:=by
          rintro rfl;rcases hT with hT|hT
          grind
          grind
         have hBm:oT B (tS.map (qH g)):=λk hk=>by obtain⟨l0,h0⟩:=hB k hk;exact⟨l0.map (kL g),by rw[htS,h0];cases l0<;>rfl⟩
         have share:∀(ι':lp)(S':ai),jE ι S ι' S' (λk=>k=g)->(∀k k',k≠g->(ι' k=some k'↔ι k=some k'))->(∀k k' b,k≠g->ι k=some k'->(∀e s n,b≠.tail e s n)->S[k']? =some b->S'[k']? =some b)->
           (∀t,ι' g=some t->∃n,S'[t]? =some (.tail e' s' n))->(∀k k',k≠g->ι k=some k'->ι' g≠some k')->bZ ι' (kL g te) (tS.map (qH g)) env S':=by
          intro ι' S' K hιe kW hg akB;refine⟨nI K _ _ h.env,λk0 l0 hk=>?_,λk0 e0 s0 hk t0 Ia=>?_,λk0 k1 hk=>?_,λi j k1 hi hj=>?_,λk0 b0 hk t0 Ia=>?_⟩
          .rw[htS]at hk;simp only[ah]at hk;obtain⟨b,hb,FH⟩:=hk;have hne:k0≠g:=by rintro rfl;rw[gC]at hb;cases hb;cases FH
           cases b<;>simp only[qH]at FH<;>first|(cases FH;done)|skip
           rename_i lb;cases FH;obtain⟨k',iL,n1,n2,n3⟩:=h.cells _ _ hb;exact⟨k',iL,(hιe _ _ hne).2 n1,kW _ _ _ hne n1 (λ_ _ _ e=>ar) n2,nI K _ _ n3⟩
          .rw[htS]at hk;simp only[ah]at hk;obtain⟨b,hb,FH⟩:=hk;cases b<;>simp only[qH]at FH<;>first|(cases FH;done)|skip
           cases FH;by_cases hg0:k0=g
           grind
           have ht1:=(hιe _ _ hg0).1 Ia;obtain⟨n,n1⟩:=h.own _ _ _ hb _ ht1;exact⟨n,(K k0 t0 hg0 ht1).2.1 _ _ _ n1⟩
          rw[htS];by_cases hg0:k0=g;subst hg0;exact⟨_,by rw[gC];rfl,λe=>ar⟩;obtain⟨b,n1,n2⟩:=h.qB _ _ ((hιe _ _ hg0).1 hk);exact⟨_,by rw[n1];rfl,λe=>by cases b<;>first|(exact n2 rfl)|cases e⟩;by_cases hig:i=g<;>by_cases hjg:j=g
          grind
          grind
          grind
          exact h.inj i j k1 ((hιe _ _ hig).1 hi) ((hιe _ _ hjg).1 hj);rw[htS]at hk;simp only[ah]at hk;obtain⟨b,hb,FH⟩:=hk;by_cases hne:k0=g;subst hne;rw[gC]at hb;cases hb;subst FH;trivial;have ht1:=(hιe _ _ hne).1 Ia;have h1:=h.mp _ _ hb _ ht1;subst FH;cases b with
          |map kt l=>exact kW _ _ _ hne ht1 (λ_ _ _ e=>ar) h1
          |rows t e l z=>obtain⟨q0,q1,ds,q2,q3⟩:=h1;exact⟨q0,q1,ds,kW _ _ _ hne ht1 (λ_ _ _ e=>ar) q2,q3⟩
          |loop=>obtain⟨r,q2,q3⟩:=h1;exact⟨r,kW _ _ _ hne ht1 (λ_ _ _ e=>ar) q2,q3⟩
          |_=>trivial
         by_cases Pt:news.isEmpty=true;have hm:m=[]:=eR (by rw[<-hlb,Cv Pt];rfl);subst hm;have e7:(Gj▸([]:List k'.den):List k.den)=[]:=eR (by rw[Mw];rfl);refine⟨.sl rows tok f,S,ι,upd w aC nT,hz _ _ (by simp only[j6,h1,Pt,if_true]),share ι S (λk k' _ hk=>⟨hk,ei rfl⟩) (λ_ _ _=>Iff.rfl) (λ_ _ _ _ _ _ h=>h) (λt ht=>h.own g _ _ gC t ht) (λk k' hk h1 h2=>hk (h.inj _ _ _ h1 h2)),?_,?_,?_,?_,Fr.refl _ _ _,hBm,gA _ _⟩;simp only[RT];rw[e7,dW];exact⟨k3,kap⟩;intro a b qA;unfold upd;rw[if_neg (h.en hn qA)];exact hw _ _ qA;intro j hj;unfold upd;rw[if_neg hj]
         intro j hj;rw[PL]at hj;cases tok with
         |none=>simp only[bV]at hj;exact⟨⟨nT,ae,by simp[upd,hj]⟩,.inl hj⟩
         |some tk=>simp only[bE,eP,or_false]at hj;rcases hj with rfl|rfl;rcases kap with ⟨h0,-⟩|⟨t0,e0,s0,a1,a2,a3⟩;cases h0;cases a2;exact⟨⟨g,ae,by simp only[upd,h.en hn a1,if_false];exact hw _ _ a1⟩,.inr ⟨_,a1⟩⟩;exact⟨⟨nT,ae,by simp[upd]⟩,.inl rfl⟩
         rcases kap with ⟨rfl,yX,akO⟩|⟨t0,e0,s0,a1,rfl,a3⟩;have Nc:jE ι S (upd ι g aC) (fu S aC (.tail e' s' ((rows.length+news.length)*s'))) (λk=>k=g):=λk k' hk h2=>⟨by simp only[upd,hk,if_false];exact h2,ei (by rw[bN hn,if_neg (h.en hn h2)])⟩;refine⟨.sl (rows++news) (some aC) ⟨false,none⟩,fu S aC (.tail e' s' ((rows.length+news.length)*s')),upd ι g aC,λj=>if j=aC then some g else w j,hz _ _ ?_,share _ _ Nc (λk k' hk=>by simp only[upd,hk,if_false]) (λk k' ds hk h2 _ h3=>by rw[bN hn,if_neg (h.en hn h2)];exact h3) (λt ht=>?_) (λk k' hk h2 h3=>?_),?_,?_,?_,?_,tc hn (acD hB gC),hBm,o6 hn⟩;simp only[j6,h1,Pt,aK,if_false,h4,aaA,if_true,yX,hb1,jo];simp only[upd,if_true,aG]at ht;subst ht;exact⟨_,by rw[bN hn,if_pos rfl]⟩;simp only[upd,if_true,aG]at h3;exact h.en hn h2 h3.symm;simp only[RT];refine⟨aep,.inr ⟨aC,e',s',by simp[upd],rfl,?_⟩⟩;rw[bN hn,if_pos rfl,cn];intro a b qA;unfold upd at qA;split at qA
         grind
         show(if b=aC then some g else w b)=some a;rw[if_neg (h.en hn qA)];exact hw _ _ qA
         grind
         grind
         obtain⟨n,a4⟩:=h.own g _ _ gC t0 a1;rw[a3]at a4;cases a4;have hne:t0≠aC:=h.en hn a1;have hlt:=(aM.1 a3).1;have bz:∀j,j≠t0->(S.set t0 (.tail e' s' ((rows.length+news.length)*s')))[j]? =S[j]? :=λj hj=>by rw[aS,if_neg (Ne.symm hj)]
         have Nc:jE ι S ι (S.set t0 (.tail e' s' ((rows.length+news.length)*s'))) (λk=>k=g):=λk k' hk h2=>⟨h2,ei (by rw[bz k' (λe9=>hk (h.inj _ _ _ h2 (by rw[e9];exact a1)))])⟩;refine⟨.sl (rows++news) (some t0) ⟨false,none⟩,S.set t0 (.tail e' s' ((rows.length+news.length)*s')),ι,λj=>if j=aC then some nT else w j,hz _ _ ?_,share _ _ Nc (λ_ _ _=>Iff.rfl) (λk k' ds hk h2 _ h3=>by rw[bz k' (λe9=>hk (h.inj _ _ _ h2 (by rw[e9];exact a1)))];exact h3) (λt ht=>?_) (λk k' hk h2 h3=>hk (h.inj _ _ _ h2 h3)),?_,?_,?_,?_,Ba a1,hBm,A5 a3 (λe=>ar)⟩;simp only[j6,h1,Pt,aK,if_false,h4,aaA,if_true,a3,decide_true,jo]
         grind
         simp only[RT];refine⟨aep,.inr ⟨t0,e',s',a1,rfl,?_⟩⟩;rw[aS,if_pos rfl,if_pos hlt,cn];intro a b qA;show(if b=aC then some nT else w b)=some a;rw[if_neg (h.en hn qA)];exact hw _ _ qA
         grind
         intro j hj;rw[PL]at hj;simp only[bE,eP,or_false]at hj;rcases hj with rfl|rfl;exact⟨⟨g,ae,by simp only[hne,if_false];exact hw _ _ a1⟩,.inr ⟨_,a1⟩⟩
         grind
        cases hr
       cases hr
      cases hr
     cases hr
    cases hr
   cases hr
  cases hr
 cases hr
theorem XF(h:bZ ι te tS env S)(hB:oT B tS)(hw:ZC ι w)(hT:xV tS nT)(hn:yU S aC)(hr:stepT P ty tt te tS o nT=some r)(hc:r.c):I8 P ty aI call yf B ι w env S o aC r:=by
 have pure:(bX P ty tt te tS o).map (λr=>(⟨r.1,te,tS,lJ te o,r.2⟩:TR))=some r->(∀j∈iD (jA env) o aC,(∃k∈lJ te o,w j=some k)/\(j=aC\/∃i,ι i=some j))->I8 P ty aI call yf B ι w env S o aC r:=by intro hp hf;simp only[ah]at hp;obtain⟨⟨v,c⟩,h1,rfl⟩:=hp;obtain⟨d,h2,h3⟩:=LJ (aI:=aI) (call:=call) (yf:=yf) (aC:=aC) h.env h.cells h1 hc;exact⟨d,S,ι,w,h2,h,h3,hw,λ_ _=>rfl,hf,Fr.refl _ _ _,hB,gA _ _⟩
 have quiet:iD (jA env) o aC=[]->(∀j∈iD (jA env) o aC,(∃k∈lJ te o,w j=some k)/\(j=aC\/∃i,ι i=some j)):=λe j hj=>by rw[e]at hj;cases hj
 cases ho:o.op with
 |alloc e=>simp only[stepT,ho]at hr;split at hr;rename_i k sz z h1;cases hr;refine⟨.ptr aC 0,fu S aC (.cells z),upd ι nT aC,upd w aC nT,by simp only[af,ho,h1],xF h hT hn (we z),by simp[RT,upd],qQ h hn hT hw,λj hj=>by simp only[upd,hj,if_false],λj hj=>?_,tc hn (nM hB hT),jM hB hT,o6 hn⟩;simp only[iD,ho,bV]at hj;exact⟨⟨nT,ae,by simp[upd,hj]⟩,.inl hj⟩;cases hr
 |box t x=>simp only[stepT,ho]at hr;split at hr;rename_i v h1;split at hr;rename_i hk;cases hr;obtain⟨d,k1,k2⟩:=bL h.env h1;refine⟨.ptr aC 0,fu S aC (.cells d.cells),upd ι nT aC,upd w aC nT,by simp only[af,ho,k1],xF h hT hn (vt hk k2),by simp[RT,upd],qQ h hn hT hw,λj hj=>by simp only[upd,hj,if_false],λj hj=>?_,tc hn (nM hB hT),jM hB hT,o6 hn⟩;simp only[iD,ho,bV]at hj;exact⟨⟨nT,ae,by simp[upd,hj]⟩,.inl hj⟩;cases hr;cases hr
 |store t a x=>exact XD h hB hw ho hr
 |load t a=>simp only[stepT,ho]at hr;refine pure hr λj hj=>?_;simp only[iD,ho]at hj;split at hj;rename_i jf s6 h1;simp only[bV]at hj;subst hj;simp only[ah,bX,ho]at hr;obtain⟨q,h2,-⟩:=hr;split at h2;rename_i td id off h3 h4;obtain⟨d,k1,k2⟩:=bL h.env h4;rw[h1]at k1;cases k1;simp only[RT]at k2;exact⟨⟨id,by simp[lJ,ho,h4],hw _ _ k2.1⟩,.inr ⟨_,k2.1⟩⟩;rename_i td e l i off h3 h4;obtain⟨d,k1,k2⟩:=bL h.env h4;rw[h1]at k1;cases k1;simp only[RT]at k2;cases h2;rename_i jf n' s6 h1;simp only[ah,bX,ho]at hr;obtain⟨q,h2,-⟩:=hr;split at h2;rename_i td id off h3 h4;obtain⟨d,k1,k2⟩:=bL h.env h4;rw[h1]at k1;cases k1;simp only[RT]at k2;rename_i td e l i off h3 h4;obtain⟨d,k1,k2⟩:=bL h.env h4;rw[h1]at k1;cases k1;simp only[RT]at k2;cases h2;cases hj
 |call cl=>
  obtain⟨callee,args,argTypes⟩:=cl;cases callee with
  |builtin b=>
   cases b with
   |append=>exact Uk h hB hw hT hn ho hr hc
   |_=>simp only[stepT,ho]at hr;exact pure hr (quiet (by simp only[iD,ho]))
  |_=>simp only[stepT,ho]at hr;exact pure hr (quiet (by simp only[iD,ho]))
 |_=>simp only[stepT,ho]at hr;exact pure hr (quiet (by simp only[iD,ho]))
end Go.Tv
namespace Go.Tv
open Go Go.Di
def R4:TV:=.val (.tuple #[])
def kC(te:cp)(dst:Option Tmp)(v:TV):cp:=
 match dst with
 |some d=>te.set d v
 |none=>te
def eE(ops:Array Oper)(te:cp)(o:Oper):Option Bool:=
 match o.guard with
 |none=>some true
 |some (j,want)=>match(ops[j]?).bind (·.dst)with
  |some d=>match te[d]? with
   |some (.val (.bool b))=>some (match want with|true=>b|false=>!b)
   |some .unk=>none
   |some (.val _)=>some false
   |_=>none
  |none=>some false
def nZ(o:Oper):Bool:=
 match o.op with
 |.alloc _|.box .. |.store .. =>true
 |.call {callee:=.builtin .append,.. }=>true
 |_=>false
def af1(o:Oper):Bool:=
 match o.op with
 |.call {callee:=.value _,.. }=>true
 |_=>false
def AR(tS:cx)(nT:Nat):Bool:=
 match tS[nT]? with
 |some .none=>true
 |none=>nT==tS.length
 |_=>false
section
variable (P:Program) (ty:gb) (tt:TypeId->cJ)
end
section
variable {P:Program} {ty:gb} {tt:TypeId->cJ} {ι ι' w:lp} {S S':ai} {te:cp} {env:cj} {tS:cx} {aI:b9} {call:bG} {yf:ez} {o:Oper} {aC nT:Nat} {B:cy} {r:TR} {ops:Array Oper}
theorem afJ{v:TV}{d:DV}(h:cO ι S te env)(hv:RT ι S v d)(dst:Option Tmp):cO ι S (kC te dst v) (kH env dst d):=by
 cases dst with
 |none=>exact h
 |some t=>exact Jm t h hv
theorem NW:RT ι S R4 bK:=by simp only[R4,bK,RT]
theorem iP(h:cO ι S te env){b:Bool}(hw:eE ops te o=some b):cI ops env o=b:=by
 unfold eE at hw;unfold cI;split at hw;rename_i e;cases hw;rw[e]
 rename_i j want e;rw[e];dsimp only;split at hw;rename_i d e1;rw[e1];dsimp only;split at hw;rename_i b' e2;cases hw;obtain⟨d',k1,k2⟩:=wh h e2;cases d'<;>simp only[RT]at k2;subst k2;rw[k1];cases b'<;>cases want<;>rfl;cases hw;rename_i v hv e2;cases hw;obtain⟨d',k1,k2⟩:=wh h e2;cases d'<;>simp only[RT]at k2;rw[k2]at k1;rw[k1];cases v<;>first|rfl|exact(hv _ rfl).elim
 cases hw;rename_i e1;cases hw;rw[e1]
theorem abQ(h:AR tS nT=true):xV tS nT:=by
 unfold AR at h;split at h;rename_i e;exact .inl e
 exact .inr (by simpa using h);cases h
def Ld(w:lp)(f ft:dz):Prop:=(f.wr=true->ft.wr=true)/\∀l,ft.ids=some l->∃m,f.ids=some m/\∀j∈m,∃k∈l,w j=some k
def Does(P:Program)(ty:gb)(aI:b9)(call:bG)(yf:ez)(B:cy)(o:Oper)(nT:Nat)(te:cp)(tS:cx)(dr:Bool)(Q:TV->cp->cx->dz->Prop):Prop:=
 ∀ι w env S aC,bZ ι te tS env S->oT B tS->ZC ι w->xV tS nT->yU S aC->(dr=true->S[aC]? =some .none)->
  ∃d S' ι' w' v cr bU f ft,(dr=false->af P ty aI call yf (jA env) o S aC=some (d,S'))/\(dr=true->aJ P ty aI call yf (jA env) o S aC=some (d,S',f))/\Ld w' f ft/\(∀l m,ft.ids=some l->f.ids=some m->∀j∈m,j=aC\/∃i,ι i=some j)/\
   bZ ι' cr bU env S'/\RT ι' S' v d/\ZC ι' w'/\(dr=true->∀j,j≠aC->w' j=w j)/\Fr B ι S ι' S'/\oT B bU/\Nn aC S S'/\Q v cr bU ft
theorem lY(h:stepT P ty tt te tS o nT=some r)(hc:r.c)(dr:Bool):Does P ty aI call yf B o nT te tS dr λv cr bU ft=>v=r.v/\cr=r.te/\bU=r.tS/\ft=⟨some r.FY,nZ o⟩:=by
 intro ι w env S aC hR hB hw hT hn hS;obtain⟨d,S',ι',w',h1,h2,h3,h4,h5,h6,h7,h8,h9⟩:=XF (aI:=aI) (call:=call) (yf:=yf) hR hB hw hT hn h hc;refine⟨d,S',ι',w',r.v,r.te,r.tS,⟨some (iD (jA env) o aC),nZ o⟩,⟨some r.FY,nZ o⟩,λ_=>h1,λhd=>?_,⟨id,λl hl=>⟨_,rfl,λj hj=>by cases hl;exact(h6 j hj).1⟩⟩,λl m hl hm j hj=>by cases hm;exact(h6 j hj).2,h2,h3,h4,λ_=>h5,h7,h8,h9,rfl,rfl,rfl,rfl⟩;have eL:=hS hd;cases ho:o.op with
 |alloc e=>simp only[aJ,ho,eL,h1,az,iD,nZ]
 |box t x=>simp only[aJ,ho,eL,h1,az,iD,nZ]
 |store t a x=>
  have:∃id off,jA env a=some (.ptr id off):=by simp only[af,ho]at h1;split at h1;rename_i a' v' e1 e2;simp only[ah]at h1;obtain⟨q,h1,-⟩:=h1;unfold qi at h1;split at h1;exact⟨_,_,e1⟩;simp only[stepT,ho]at h;split at h;rename_i t1 t2 t3;obtain⟨d9,t4,t5⟩:=bL hR.env t2;rw[e1]at t4;cases t4;simp only[RT]at t5;cases h;cases h1;cases h1
  obtain⟨id,off,e⟩:=this;simp only[aJ,ho,e,h1,az,iD,nZ]
 |load t a=>
  cases e:jA env a with
  |none=>simp only[af,ho,e]at h1;cases h1
  |some da=>cases da<;>simp only[aJ,ho,e,h1,az,iD,nZ]
 |makeMap t x=>simp only[stepT,bX,ho,mN]at h;cases h
 |makeSlice t x y=>simp only[stepT,bX,ho,mN]at h;cases h
 |buildSlice t n ps=>
  have hh:ty.h o≠1:=by simp only[stepT,bX,ho]at h;intro e;split at h;split at h;simp[e]at h;cases h;cases h
  simp only[aJ,ho,h1,az,iD,nZ]
 |fieldAddr t a f'=>
  cases e:jA env a with
  |none=>simp only[af,ho,e]at h1;split at h1<;>simp_all
  |some da=>
   cases da with
   |gF id n off=>simp only[stepT,bX,ho]at h;split at h;rename_i t1 t2;obtain⟨d9,t4,t5⟩:=bL hR.env t2;rw[e]at t4;cases t4;simp only[RT]at t5;rename_i t1 t2;obtain⟨d9,t4,t5⟩:=bL hR.env t2;rw[e]at t4;cases t4;simp only[RT]at t5;cases h
   |_=>simp only[aJ,ho,e,h1,az,iD,nZ]
 |indexAddr t a i=>
  cases e:jA env a with
  |none=>simp only[af,ho,e]at h1;split at h1<;>simp_all
  |some da=>
   cases da with
   |jX id n ag=>simp only[stepT,bX,ho]at h;split at h;rename_i t1 t2 t3;simp only[ah]at t2;obtain⟨u,t2,t6⟩:=t2;obtain⟨d9,t4,t5⟩:=bL hR.env t2;rw[e]at t4;cases t4;have t7:=dn (tt:=tt) (t:=t) t5;rw[t6]at t7;simp only[RT]at t7;rename_i t1 t2 t3;simp only[ah]at t2;obtain⟨u,t2,t6⟩:=t2;obtain⟨d9,t4,t5⟩:=bL hR.env t2;rw[e]at t4;cases t4;have t7:=dn (tt:=tt) (t:=t) t5;rw[t6]at t7;simp only[RT]at t7;rename_i t1 t2 t3;simp only[ah]at t2;obtain⟨u,t2,t6⟩:=t2;obtain⟨d9,t4,t5⟩:=bL hR.env t2;rw[e]at t4;cases t4;have t7:=dn (tt:=tt) (t:=t) t5;rw[t6]at t7;simp only[RT]at t7;cases h
   |_=>simp only[aJ,ho,e,h1,az,iD,nZ]
 |lookup t m k b=>simp only[stepT,bX,ho,mN]at h;cases h
 |mapUpdate t m k b=>simp only[stepT,bX,ho,mN]at h;cases h
 |call cl=>
  obtain⟨callee,args,argTypes⟩:=cl;cases callee with
  |builtin b=>
   cases b with
   |append=>
    have key:ty.h o≠1/\∀id n ag,(args[0]?).bind (jA env)≠some (.jX id n ag):=by
     simp only[stepT,ho]at h;split at h;rename_i x y t u ha ht;split at h;rename_i Ut;refine⟨Ut.2,λid n ag he=>?_⟩;have h0:args[0]? =some x:=by rw[<-kg,ha];rfl
     rw[h0]at he
     replace he:jA env x=some (.jX id n ag):=he
     split at h;rename_i t1 t2 t3;simp only[ah]at t2;obtain⟨u,t2,t6⟩:=t2;obtain⟨d9,t4,t5⟩:=bL hR.env t2;rw[he]at t4;cases t4;have t7:=dn (tt:=tt) (t:=t) t5;rw[t6]at t7;simp only[RT]at t7;cases h;cases h;cases h
    cases e:(args[0]?).bind (jA env)with
    |none=>simp only[aJ,ho,eL,e,h1,az,iD,nZ,if_neg key.1,DR,aK,if_false]
    |some da=>
     cases da with
     |sl rows tok f=>cases tok<;>simp only[aJ,ho,eL,e,h1,az,iD,nZ,if_neg key.1,DR,aK,if_false]
     |jX id n ag=>exact absurd e (key.2 id n ag)
     |_=>simp only[aJ,ho,eL,e,h1,az,iD,nZ,if_neg key.1,DR,aK,if_false]
   |_=>simp only[aJ,ho,h1,az,iD,nZ]
  |value f=>simp only[stepT,bX,ho,mN]at h;cases h
  |_=>simp only[aJ,ho,h1,az,iD,nZ]
 |_=>simp only[aJ,ho,h1,az,iD,nZ]
def WL(P:Program)(ty:gb)(aI:b9)(call:bG)(yf:ez)(B:cy)(ops:Array Oper)(k:Nat)(te:cp)(tS:cx)(Q:cp->cx->Prop):Prop:=
 ∀ι env S,bZ ι te tS env S->oT B tS->∃aL S' ι' cr bU,Il P ty aI call yf ops (ops.toList.drop k) env S=some (aL,S')/\bZ ι' cr bU aL S'/\oT B bU/\Fr B ι S ι' S'/\Nn S.length S S'/\Q cr bU
theorem NT(h:bZ ι te tS env S):∃w,ZC ι w:=by refine⟨λk'=>(Classical.epsilon λo:Option Nat=>∀k,ι k=some k'->o=some k),λk k' hk=>?_⟩;have:∃o:Option Nat,∀j,ι j=some k'->o=some j:=⟨some k,λj hj=>congrArg some (h.inj _ _ _ hk hj)⟩;exact Classical.epsilon_spec this k hk
theorem vz{xM:ai}(h:Nn S.length S S')(k:Nn S'.length S' xM):Nn S.length S xM:=by refine⟨bt h.1 k.1,λj hj hn=>?_⟩;have h1:=h.2 j hj hn;have:=(aM.1 h1).1;exact k.2 j ab h1
theorem oZ(h:bZ ι te tS env S){v:TV}{d:DV}(hv:RT ι S v d)(dst:Option Tmp):bZ ι (kC te dst v) tS (kH env dst d) S:=⟨afJ h.env hv dst,h.cells,h.own,h.qB,h.inj,h.mp⟩
theorem o9{k:Nat}(ho:ops[k]? =some o):ops.toList.drop k=o::ops.toList.drop (k+1):=by
 have h:ops.toList[k]? =some o:=by simpa using ho
 obtain⟨hk,rfl⟩:=aM.1 h;exact nU hk
theorem afd{k:Nat}(hk:ops.size<=k){Q:cp->cx->Prop}(h:Q te tS):WL P ty aI call yf B ops k te tS Q:=by intro ι env S hR hB;rw[ki (by simpa using hk)];exact⟨env,S,ι,te,tS,rfl,hR,hB,Fr.refl _ _ _,gA _ _,h⟩
theorem aaV{k:Nat}(ho:ops[k]? =some o)(hw:eE ops te o=some false){Q:cp->cx->Prop}
  (h:WL P ty aI call yf B ops (k+1) (kC te o.dst R4) tS Q):WL P ty aI call yf B ops k te tS Q:=by
 intro ι env S hR hB;obtain⟨aL,xM,ι'',uP,uQ,k1,k2,k3,k4,k5,k6⟩:=h ι (kH env o.dst bK) S (oZ hR NW _) hB;refine⟨aL,xM,ι'',uP,uQ,?_,k2,k3,k4,k5,k6⟩;rw[o9 ho];simp only[Il,iP hR.env hw,aK,if_false,k1]
theorem MX{k:Nat}{r:List Oper}(h:ops.toList.drop k=o::r):ops[k]? =some o/\r=ops.toList.drop (k+1):=by
 have h1:ops.toList[k]? =some o:=by have:=congrArg (·[0]?) h;simpa using this
 refine⟨by simpa using h1,?_⟩;have:=congrArg List.tail h;simpa using this.symm
end
end Go.Tv
