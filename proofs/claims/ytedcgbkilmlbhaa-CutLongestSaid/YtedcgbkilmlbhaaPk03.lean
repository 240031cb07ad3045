import Derived.Test.YtedcgbkilmlbhaaPk02
namespace Go.Tv
open Go Go.Di
mutual
def tZ(g:Nat):TV->TV
 |.sl t l (.kA k)=>if k=g then .sl t l .no else .sl t l (.kA k)
 |.sl t l (.Cz _)=>.sl t l .no
 |.ptr id off=>if id=g then .unk else .ptr id off
 |.mp id=>if id=g then .unk else .mp id
 |.so id t=>if id=g then .unk else .so id t
 |.sp id t i off=>if id=g then .unk else .sp id t i off
 |.oq k fn te=>if k=g then .unk else .oq k fn (kE g te)
 |.agg l=>.agg (kE g l)
 |.tup l=>.tup (kE g l)
 |.fn f a b=>.fn f (kE g a) (kE g b)
 |v=>v
def kE(g:Nat):List TV->List TV
 |[]=>[]
 |a::l=>tZ g a::kE g l
end
def qA(g:Nat):TB->TB
 |.cells l=>.cells (kE g l)
 |b=>b
def pK(tS:List TB)(i:Nat)(b:TB):List TB:=if i<tS.length then tS.set i b else tS++[b]
def acL:TV->Bool
 |.val v=>!(v matches .tuple _)
 |.unk|.agg _|.tup _=>false
 |_=>true
def NF{α β:Type}(l:List α)(m:List β):Bool:=
 match l with
 |[]=>true
 |_::_=>match m with
  |[]=>false
  |_::_=>true
theorem XQ{α β:Type}{l:List α}{m:List β}(h:NF l m=true):l.length=0\/m.length≠0:=by unfold NF at h;cases l<;>cases m<;>simp_all
structure TR where
 v:TV
 te:List TV
 tS:List TB
 FQ:List Nat
 c:Prop
section
variable (P:Program) (ty:fP) (tt:TypeId->Option TT)
def lD(te:List TV)(o:Oper):List Nat:=
 match o.op with
 |.load _ a=>match fM te a with
  |some (.ptr id _)=>[id]
  |_=>[]
 |_=>[]
def stepT(te:List TV)(tS:List TB)(o:Oper)(nT:Nat):Option TR:=
 match o.op with
 |.alloc e=>match ty e with
  |some ⟨_,_,some z⟩=>some ⟨.ptr nT 0,te,pK tS nT (.cells (z.map tM)),[nT],True⟩
  |_=>none
 |.box _ x=>match fM te x with
  |some d=>if d.known then some ⟨.ptr nT 0,te,pK tS nT (.cells d.cells),[nT],True⟩else none
  |none=>none
 |.store t a x=>match ty t,fM te a,(fM te x).map (fO tt t)with
  |some d,some (.ptr id off),some v=>match tS[id]? with
   |some (.cells l)=>if v.known&&v.cells.length==d.size&&v.cells.all acL then(MO l off v.cells).map λl'=>⟨.unk,te,tS.set id (.cells l'),[id],True⟩else none
   |_=>none
  |_,_,_=>none
 |.call {callee:=.builtin .append,args,argTypes}=>match args.toList,argTypes.toList with
  |[x,y],[t,u]=>if t=u/\ty.h o≠1 then match ty t,(fM te x).map (fO tt t),(fM te y).map (fO tt t)with
   |some ⟨.slice e s lU _,_,_⟩,some (.sl k l ap),some (.sl k' m _)=>match ty e with
    |some ⟨_,_,some _⟩=>if h:k'=k then
     if decide (0<s)&&decide (lU<=100000)&&k.size==s then match ap with
      |.no|.stop _|.Cz _=>none
      |.full=>match ty.h o==3 with
       |true=>some ⟨.sl k (l++(h▸m)) (.kA nT),te,pK tS nT (.own e s),[nT],l.length+m.length<=1000000000/\(l.length=0\/m.length≠0)⟩
       |false=>if NF l m then some ⟨.sl k (l++(h▸m)) (.kA nT),te,pK tS nT (.own e s),[nT],l.length+m.length<=1000000000⟩else none
      |.kA g=>match tS[g]? with
       |some (.own e' s')=>if e'==e&&s'==s then some ⟨.sl k (l++(h▸m)) (.kA g),kE g te,tS.map (qA g),[g,nT],l.length+m.length<=1000000000⟩else none
       |_=>none
     else none
     else none
    |_=>none
   |_,_,_=>none
   else none
  |_,_=>none
 |_=>(bP P ty tt te tS o).map λr=>⟨r.1,te,tS,lD te o,r.2⟩
end
def iy(ρ:Operand->Option DV)(o:Oper)(aD:Nat):List Nat:=
 match o.op with
 |.alloc _|.box .. =>[aD]
 |.store _ a _=>match ρ a with
  |some (.ptr id _)=>[id]
  |_=>[]
 |.load _ a=>match ρ a with
  |some (.ptr id _)=>[id]
  |some (.gD id _ _)=>[id]
  |_=>[]
 |.call {callee:=.builtin .append,args,.. }=>match(args[0]?).bind ρ with
  |some (.sl _ (some t) _)=>[t,aD]
  |_=>[aD]
 |_=>[]
def Gf:(t:TT)->t.den->List Value
 |.int k,n=>[.int k n]
 |.bool,b=>[.bool b]
 |.str,s=>[.string s]
 |.unit,_=>[]
 |.pair a b,x=>Gf a x.1++Gf b x.2
 |.sl _,_=>[]
def mQ(t:TT)(x:t.den):Value:=.agg (Gf t x).toArray
def sR(t:TT)(l:List t.den):List (Value×Value):=l.map λx=>(mQ t x,.bool true)
def fH(t:TT):List t.den->List DV->Prop
 |[],ds=>ds=[]
 |x::l,ds=>∃c m,ds=c++m/\CR t x c/\fH t l m
def ady:TB->Option DB->Prop
 |.map kt l,b=>b=some (.map (sR kt l))
 |.rows t e l z,b=>0<t.size/\(t.agg||t.size==1)=true/\∃ds,b=some (.op e t.size ds z)/\fH t l ds
 |.loop,b=>∃r,b=some (.loop r)/\r.st=.ready/\r.kD=none
 |_,_=>True
structure bT (ι:lq) (te:List TV) (tS:List TB) (env:List DV) (S:ai):Prop where
 env:cQ ι S te env
 cells:IF ι S tS
 own:∀k e s,tS[k]? =some (.own e s)->∀t,ι k=some t->∃n,S[t]? =some (.tail e s n)
 qv:∀k k',ι k=some k'->∃b,tS[k]? =some b/\b≠.none
 inj:∀i j k',ι i=some k'->ι j=some k'->i=j
 mp:∀k b,tS[k]? =some b->∀t,ι k=some t->ady b S[t]?
def Yw(ι:lq)(w:lq):Prop:=∀k k',ι k=some k'->w k'=some k
section
variable {P:Program} {ty:fP} {tt:TypeId->Option TT} {ι ι' w:lq} {S S':ai} {te:List TV} {env:List DV} {tS:List TB} {aI:bS} {call:bt} {yf:ew} {o:Oper} {aD nT:Nat} {r:TR}
def NK(a b:Option DB):Prop:=(∀e s n,a=some (.tail e s n)->b=some (.tail e s n))/\(∀e s l z,a=some (.op e s l z)->∃l' z',b=some (.op e s l' z')/\l'.length=l.length)/\∀r,a=some (.loop r)->b=some (.loop r)
theorem dY{a b:Option DB}(h:b=a):NK a b:=by subst h;exact⟨λ_ _ _ h=>h,λ_ _ l z h=>⟨l,z,h,rfl⟩,λ_ h=>h⟩
theorem vO{a b:Option DB}(h1:∀e s n,a≠some (.tail e s n))(h2:∀e s l z,a≠some (.op e s l z))(h3:∀r,a≠some (.loop r)):NK a b:=⟨λ_ _ _ h=>absurd h (h1 _ _ _),λ_ _ _ _ h=>absurd h (h2 _ _ _ _),λ_ h=>absurd h (h3 _)⟩
def jE(ι:lq)(S:ai)(ι':lq)(S':ai)(bad:Nat->Prop):Prop:=∀k k',¬bad k->ι k=some k'->ι' k=some k'/\NK S[k']? S'[k']?
theorem QK{n:Nat}{tok:Option Nat}{f:SF}{ap:Ap}{bad:Nat->Prop}(h:jE ι S ι' S' bad)(hb:∀g,ap=.kA g\/ap=.Cz g->¬bad g)(k:pQ ι S n tok f ap):pQ ι' S' n tok f ap:=by
 cases ap with
 |no=>trivial
 |full=>exact k
 |kA g=>refine k.imp id λ⟨t,e,s,h1,h2,h3⟩=>?_;obtain⟨h4,h5⟩:=h g t (hb g (.inl rfl)) h1;exact⟨t,e,s,h4,h2,h5.1 _ _ _ h3⟩
 |stop b=>trivial
 |Cz g=>refine k.imp id λ⟨t,e,s,h1,h2,h3⟩=>?_;obtain⟨h4,h5⟩:=h g t (hb g (.inr rfl)) h1;exact⟨t,e,s,h4,h2,h5.1 _ _ _ h3⟩
mutual
theorem aab(h:jE ι S ι' S' λ_=>False):∀(v:TV)(d:DV),RT ι S v d->RT ι' S' v d
 |.unk,_,_=>by simp only[RT]
 |.val _,d,k=>by cases d<;>simp only[RT]at k⊢;exact k
 |.au,d,k=>by cases d<;>simp only[RT]at k⊢;exact k
 |.agg l,d,k=>by cases d<;>simp only[RT]at k⊢;exact bu h l _ k
 |.tup l,d,k=>by cases d<;>simp only[RT]at k⊢;exact bu h l _ k
 |.sl t l ap,d,k=>by cases d<;>simp only[RT]at k⊢;exact⟨k.1,QK h (λ_ _=>id) k.2⟩
 |.ptr id off,d,k=>by cases d<;>simp only[RT]at k⊢;exact⟨(h _ _ (λe=>e) k.1).1,k.2⟩
 |.fF t l i off,d,k=>by cases d<;>simp only[RT]at k⊢;exact k
 |.mp id,d,k=>by cases d<;>simp only[RT]at k⊢;exact(h _ _ (λe=>e) k).1
 |.so g t,d,k=>by cases d<;>simp only[RT]at k⊢;obtain⟨k1,k2,e,s,l,z,k3,k4⟩:=k;obtain⟨h1,h2⟩:=h _ _ (λe=>e) k1;obtain⟨l',z',h3,h4⟩:=h2.2.1 e s l z k3;exact⟨h1,k2,e,s,l',z',h3,by omega⟩
 |.oq k0 fn te,d,k=>by cases d<;>simp only[RT]at k⊢;obtain⟨k1,ps,a,b,env,BI,k4,k2,k3⟩:=k;obtain⟨h1,h2⟩:=h _ _ (λe=>e) k1;exact⟨h1,ps,a,b,env,BI,k4,h2.2.2 _ k2,bu h te env k3⟩
 |.sp g t i off,d,k=>by cases d<;>simp only[RT]at k⊢;obtain⟨k1,k2,e,s,l,z,k3,k4,k5⟩:=k;obtain⟨h1,h2⟩:=h _ _ (λe=>e) k1;obtain⟨l',z',h3,h4⟩:=h2.2.1 e s l z k3;exact⟨h1,k2,e,s,l',z',h3,by omega,by omega⟩
 |.fn f a b,d,k=>by cases d<;>simp only[RT]at k⊢;exact⟨k.1,bu h a _ k.2.1,bu h b _ k.2.2⟩
theorem bu(h:jE ι S ι' S' λ_=>False):∀(l:List TV)(m:List DV),cQ ι S l m->cQ ι' S' l m
 |[],m,k=>by rw[aP k];exact bL
 |a::l,m,k=>by obtain⟨d,m',rfl,h1,h2⟩:=ak k;exact aQ (aab h a d h1) (bu h l m' h2)
end
mutual
theorem aem{g:Nat}(h:jE ι S ι' S' λk=>k=g):∀(v:TV)(d:DV),RT ι S v d->RT ι' S' (tZ g v) d
 |.unk,_,_=>by simp only[tZ,RT]
 |.val _,d,k=>by cases d<;>simp only[RT,tZ]at k⊢;exact k
 |.au,d,k=>by cases d<;>simp only[RT,tZ]at k⊢;exact k
 |.agg l,d,k=>by cases d<;>simp only[RT,tZ]at k⊢;exact nG h l _ k
 |.tup l,d,k=>by cases d<;>simp only[RT,tZ]at k⊢;exact nG h l _ k
 |.sl t l .no,d,k=>by cases d<;>simp only[RT,tZ]at k⊢;exact⟨k.1,trivial⟩
 |.sl t l .full,d,k=>by cases d<;>simp only[RT,tZ]at k⊢;exact k
 |.sl t l (.stop _),d,k=>by cases d<;>simp only[RT,tZ]at k⊢;exact⟨k.1,trivial⟩
 |.sl t l (.Cz _),d,k=>by cases d<;>simp only[RT,tZ]at k⊢;exact⟨k.1,trivial⟩
 |.sl t l (.kA j),d,k=>by
  cases d<;>simp only[RT]at k;simp only[tZ];split;.simp only[RT];exact⟨k.1,trivial⟩
  rename_i hj;simp only[RT];exact⟨k.1,QK h (λg' e=>by rcases e with e|e<;>cases e;exact hj) k.2⟩
 |.ptr id off,d,k=>by
  cases d<;>simp only[RT]at k;simp only[tZ];split;.simp only[RT]
  rename_i hj;simp only[RT];exact⟨(h _ _ hj k.1).1,k.2⟩
 |.fF t l i off,d,k=>by cases d<;>simp only[RT,tZ]at k⊢;exact k
 |.mp id,d,k=>by
  cases d<;>simp only[RT]at k;simp only[tZ];split;.simp only[RT]
  rename_i hj;simp only[RT];exact(h _ _ hj k).1
 |.so j t,d,k=>by
  cases d<;>simp only[RT]at k;simp only[tZ];split;.simp only[RT]
  rename_i hj;simp only[RT];obtain⟨k1,k2,e,s,l,z,k3,k4⟩:=k;obtain⟨h1,h2⟩:=h _ _ hj k1;obtain⟨l',z',h3,h4⟩:=h2.2.1 e s l z k3;exact⟨h1,k2,e,s,l',z',h3,by omega⟩
 |.oq k0 fn te,d,k=>by
  cases d<;>simp only[RT]at k;simp only[tZ];split;.simp only[RT]
  rename_i hj;simp only[RT];obtain⟨k1,ps,a,b,env,BI,k4,k2,k3⟩:=k;obtain⟨h1,h2⟩:=h _ _ hj k1;exact⟨h1,ps,a,b,env,BI,k4,h2.2.2 _ k2,nG h te env k3⟩
 |.sp j t i off,d,k=>by
  cases d<;>simp only[RT]at k;simp only[tZ];split;.simp only[RT]
  rename_i hj;simp only[RT];obtain⟨k1,k2,e,s,l,z,k3,k4,k5⟩:=k;obtain⟨h1,h2⟩:=h _ _ hj k1;obtain⟨l',z',h3,h4⟩:=h2.2.1 e s l z k3;exact⟨h1,k2,e,s,l',z',h3,by omega,by omega⟩
 |.fn f a b,d,k=>by cases d<;>simp only[RT,tZ]at k⊢;exact⟨k.1,nG h a _ k.2.1,nG h b _ k.2.2⟩
theorem nG{g:Nat}(h:jE ι S ι' S' λk=>k=g):∀(l:List TV)(m:List DV),cQ ι S l m->cQ ι' S' (kE g l) m
 |[],m,k=>by rw[aP k];simp only[kE];exact bL
 |a::l,m,k=>by obtain⟨d,m',rfl,h1,h2⟩:=ak k;simp only[kE];exact aQ (aem h a d h1) (nG h l m' h2)
end
def AJ(tS:List TB)(nT:Nat):Prop:=tS[nT]? =some .none\/nT=tS.length
def AK(S:ai)(aD:Nat):Prop:=S[aD]? =some .none\/aD=S.length
theorem dc{b:TB}(h:AJ tS nT)(j:Nat):(pK tS nT b)[j]? =if j=nT then some b else tS[j]? :=by
 unfold pK;rcases h with h|h
 .have hlt:=(az.1 h).1;rw[if_pos hlt,aF];by_cases e:nT=j;.subst e;rw[if_pos rfl,if_pos hlt,if_pos rfl]
  rw[if_neg e,if_neg (Ne.symm e)]
 subst h;rw[if_neg (Nat.lt_irrefl _),qT];by_cases e:j=tS.length;.subst e;rw[if_neg (Nat.lt_irrefl _),if_pos rfl];simp
 rw[if_neg e];split;.rfl
 rw[fu (by simp;omega),fu (by omega)]
theorem bF{b:DB}(h:AK S aD)(j:Nat):(eW S aD b)[j]? =if j=aD then some b else S[j]? :=by
 unfold eW;rcases h with h|h
 .have hlt:=(az.1 h).1;rw[if_pos hlt,aF];by_cases e:aD=j;.subst e;rw[if_pos rfl,if_pos hlt,if_pos rfl]
  rw[if_neg e,if_neg (Ne.symm e)]
 subst h;rw[if_neg (Nat.lt_irrefl _),qT];by_cases e:j=S.length;.subst e;rw[if_neg (Nat.lt_irrefl _),if_pos rfl];simp
 rw[if_neg e];split;.rfl
 rw[fu (by simp;omega),fu (by omega)]
def upd(ι:lq)(k k':Nat):lq:=λj=>if j=k then some k' else ι j
theorem bT.live (h:bT ι te tS env S){k k':Nat}(hk:ι k=some k'):∃b,S[k']? =some b/\b≠.none:=by
 obtain⟨b,h1,h2⟩:=h.qv k k' hk;cases b with
 |none=>exact(h2 rfl).elim
 |cells l=>obtain⟨k'',ds,h3,h4,-⟩:=h.cells k l h1;rw[hk]at h3;cases h3;exact⟨_,h4,λe=>by cases e⟩
 |own e s=>obtain⟨n,h3⟩:=h.own k e s h1 k' hk;exact⟨_,h3,λe=>by cases e⟩
 |map kt l=>exact⟨_,h.mp k _ h1 k' hk,λe=>by cases e⟩
 |rows t e l z=>obtain⟨-,-,ds,h3,-⟩:=h.mp k _ h1 k' hk;exact⟨_,h3,λe=>by cases e⟩
 |loop=>obtain⟨r,h3,-⟩:=h.mp k _ h1 k' hk;exact⟨_,h3,λe=>by cases e⟩
theorem bT.eA (h:bT ι te tS env S)(hn:AK S aD){k k':Nat}(hk:ι k=some k'):k'≠aD:=by
 rintro rfl;obtain⟨b,h1,h2⟩:=h.live hk;rcases hn with hn|hn;.rw[hn]at h1;cases h1;exact h2 rfl
 have:=(az.1 h1).1;omega
theorem bT.new (h:bT ι te tS env S)(hn:AJ tS nT):ι nT=none:=by
 cases hk:ι nT with
 |none=>rfl
 |some k'=>
  obtain⟨b,h1,h2⟩:=h.qv _ _ hk;rcases hn with hn|hn;.rw[hn]at h1;cases h1;exact(h2 rfl).elim
  have:=(az.1 h1).1;omega
theorem wE(h:bT ι te tS env S)(hT:AJ tS nT)(hn:AK S aD)(b:DB):jE ι S (upd ι nT aD) (eW S aD b) λ_=>False:=by
 intro k k' _ hk;have h1:k≠nT:=by rintro rfl;rw[h.new hT]at hk;cases hk
 exact⟨by simp only[upd,h1,if_false];exact hk,dY (by rw[bF hn,if_neg (h.eA hn hk)])⟩
theorem qG(h:bT ι te tS env S)(hn:AK S aD)(hT:AJ tS nT)(hw:Yw ι w):Yw (upd ι nT aD) (upd w aD nT):=by
 intro k k' hk;unfold upd at hk⊢;split at hk;.rename_i e;subst e;cases hk;simp
 rw[if_neg (h.eA hn hk)];exact hw k k' hk
theorem xw(h:bT ι te tS env S)(hT:AJ tS nT)(hn:AK S aD){ts:List TV}{ds:List DV}(hc:cQ ι S ts ds):bT (upd ι nT aD) te (pK tS nT (.cells ts)) env (eW S aD (.cells ds)):=by
 have K:=wE h hT hn (.cells ds);refine⟨bu K _ _ h.env,λk l hk=>?_,λk e s hk t ht=>?_,λk k' hk=>?_,λi j k' hi hj=>?_,λk b hk t ht=>?_⟩
 .rw[dc hT]at hk;split at hk;.rename_i e;subst e;cases hk;exact⟨aD,ds,by simp[upd],by rw[bF hn,if_pos rfl],bu K _ _ hc⟩
  rename_i e;obtain⟨k',iJ,h1,h2,h3⟩:=h.cells k l hk;exact⟨k',iJ,by simp only[upd,e,if_false];exact h1,by rw[bF hn,if_neg (h.eA hn h1)];exact h2,bu K _ _ h3⟩
 .rw[dc hT]at hk;split at hk;.cases hk
  rename_i e';simp only[upd,e',if_false]at ht;obtain⟨n,h1⟩:=h.own k e s hk t ht;exact⟨n,by rw[bF hn,if_neg (h.eA hn ht)];exact h1⟩
 .rw[dc hT];split;.exact⟨_,rfl,λe=>by cases e⟩
  rename_i e;simp only[upd,e,if_false]at hk;exact h.qv k k' hk
 .unfold upd at hi hj;split at hi<;>split at hj;.omega
  .cases hi;exact(h.eA hn hj rfl).elim
  .cases hj;exact(h.eA hn hi rfl).elim
  exact h.inj i j k' hi hj
 rw[dc hT]at hk;split at hk;.cases hk;trivial
 rename_i e';simp only[upd,e',if_false]at ht;rw[bF hn,if_neg (h.eA hn ht)];exact h.mp k b hk t ht
def Lv(S:ai)(i:Nat):Prop:=∃b,S[i]? =some b/\b≠.none
structure Fr (B:List Nat) (ι:lq) (S:ai) (ι':lq) (S':ai):Prop where
 rest:∀k',Lv S k'->(∀k,ι k≠some k')->S'[k']? =S[k']?
 ours:∀k k',ι' k=some k'->(∃j,ι j=some k')\/¬Lv S k'
 base:∀k,k∈B->ι' k=ι k
def lC:Option (List TV)->TB
 |some l=>.cells l
 |none=>.loop
def oK(B:List Nat)(tS:List TB):Prop:=∀k,k∈B->∃l,tS[k]? =some (lC l)
theorem Fr.refl (B:List Nat)(ι:lq)(S:ai):Fr B ι S ι S:=⟨λ_ _ _=>rfl,λk _ h=>.inl ⟨k,h⟩,λ_ _=>rfl⟩
theorem Fr.trans {B:List Nat}{ι'':lq}{xE:ai}(h:Fr B ι S ι' S')(k:Fr B ι' S' ι'' xE):Fr B ι S ι'' xE where
 rest:=λk' hl hn=>by
  have h1:=h.rest k' hl hn;have iU:Lv S' k':=by obtain⟨b,h2,h3⟩:=hl;exact⟨b,h1.trans h2,h3⟩
  refine(k.rest k' iU λj hj=>?_).trans h1;rcases h.ours j k' hj with ⟨i,h2⟩|h2;.exact hn i h2
  exact h2 hl
 ours:=λj k' hj=>by
  rcases k.ours j k' hj with ⟨i,h1⟩|h1;.exact h.ours i k' h1
  by_cases hl:Lv S k'
  .by_cases hn:∃j,ι j=some k';.exact .inl hn
   refine(h1 ?_).elim;obtain⟨b,h2,h3⟩:=hl;exact⟨b,(h.rest k' ⟨b,h2,h3⟩ λi hi=>hn ⟨i,hi⟩).trans h2,h3⟩
  exact .inr hl
 base:=λj hj=>(k.base j hj).trans (h.base j hj)
theorem Ag(hn:AK S aD):¬Lv S aD:=by
 rintro⟨b,h1,h2⟩;rcases hn with hn|hn;.rw[hn]at h1;cases h1;exact h2 rfl
 have:=(az.1 h1).1;omega
theorem sX{B:List Nat}{g:Nat}{b:DB}(hn:AK S aD)(hg:g∉B):Fr B ι S (upd ι g aD) (eW S aD b) where
 rest:=λk' hl _=>by rw[bF hn,if_neg];rintro rfl;exact Ag hn hl
 ours:=λk k' hk=>by
  unfold upd at hk;split at hk;.cases hk;exact .inr (Ag hn)
  exact .inl ⟨k,hk⟩
 base:=λk hk=>by unfold upd;rw[if_neg (λe:k=g=>hg (e▸hk))]
theorem AV{B:List Nat}{k0 id:Nat}{b:DB}(hk:ι k0=some id):Fr B ι S ι (S.set id b) where
 rest:=λk' _ hn=>by rw[aF,if_neg];rintro rfl;exact hn k0 hk
 ours:=λk _ h=>.inl ⟨k,h⟩
 base:=λ_ _=>rfl
theorem nJ{B:List Nat}(hB:oK B tS)(hT:AJ tS nT):nT∉B:=by
 intro hlt;obtain⟨l,h1⟩:=hB _ hlt;rcases hT with hT|hT;.rw[hT]at h1;cases l<;>cases h1
 have:=(az.1 h1).1;omega
theorem kS{B:List Nat}{b:TB}(hB:oK B tS)(hT:AJ tS nT):oK B (pK tS nT b):=by intro k hk;have:=nJ hB hT;rw[dc hT,if_neg (λe:k=nT=>this (e▸hk))];exact hB k hk
theorem abi{B:List Nat}{g e s:Nat}(hB:oK B tS)(h:tS[g]? =some (.own e s)):g∉B:=by intro hlt;obtain⟨l,h1⟩:=hB _ hlt;rw[h]at h1;cases l<;>cases h1
def Nn(i:Nat)(S S':ai):Prop:=S.length<=S'.length/\∀j,j≠i->S[j]? =some .none->S'[j]? =some .none
theorem gM(i:Nat)(S:ai):Nn i S S:=⟨aj _,λ_ _ h=>h⟩
theorem oR{b:DB}(hn:AK S aD):Nn aD S (eW S aD b):=by refine⟨?_,λj hj h=>by rw[bF hn,if_neg hj];exact h⟩;unfold eW;split<;>simp
theorem AQ{i id:Nat}{b b':DB}(h:S[id]? =some b)(hb:b≠.none):Nn i S (S.set id b'):=by
 refine⟨by simp,λj _ hj=>?_⟩;rw[aF,if_neg];.exact hj
 rintro rfl;rw[h]at hj;cases hj;exact hb rfl
end
end Go.Tv
namespace Go.Tv
open Go Go.Di
variable {P:Program} {ty:fP} {tt:TypeId->Option TT} {ι ι' w:lq} {S S':ai} {te:List TV} {env:List DV} {tS:List TB} {aI:bS} {call:bt} {yf:ew} {o:Oper} {aD nT:Nat} {B:List Nat} {r:TR}
theorem Vq:∀{l:List TV}{m:List DV},cQ ι S l m->l.all acL=true->m.all DV.one=true
 |[],m,h,_=>by rw[aP h];rfl
 |a::l,m,h,k=>by obtain⟨d,m',rfl,h1,h2⟩:=ak h;simp only[cA,aA]at k⊢;refine⟨?_,Vq h2 k.2⟩;cases a<;>cases d<;>simp only[RT]at h1<;>first|rfl|(cases k.1;done)|(subst h1;exact k.1)
def IE(P:Program)(ty:fP)(aI:bS)(call:bt)(yf:ew)(B:List Nat)(ι w:lq)(env:List DV)(S:ai)(o:Oper)(aD:Nat)(r:TR):Prop:=
 ∃d S' ι' w',ah P ty aI call yf (jy env) o S aD=some (d,S')/\bT ι' r.te r.tS env S'/\RT ι' S' r.v d/\Yw ι' w'/\(∀j,j≠aD->w' j=w j)/\(∀j∈iy (jy env) o aD,(∃k∈r.FQ,w' j=some k)/\(j=aD\/∃i,ι i=some j))/\Fr B ι S ι' S'/\oK B r.tS/\Nn aD S S'
theorem Wo(h:bT ι te tS env S)(hB:oK B tS)(hw:Yw ι w){t:TypeId}{a x:Operand}(ho:o.op=.store t a x)(hr:stepT P ty tt te tS o nT=some r):IE P ty aI call yf B ι w env S o aD r:=by
 simp only[stepT,ho]at hr;split at hr
 .rename_i td id off v h1 h2 h3;split at hr
  .rename_i l h4;split at hr
   .rename_i hc;simp only[aA,dU]at hc;obtain⟨⟨c1,c2⟩,c3⟩:=hc;simp only[af]at hr h3;obtain⟨l',h5,rfl⟩:=hr;obtain⟨u,h6,h7⟩:=h3;obtain⟨da,k1,k2⟩:=bD h.env h2;cases da<;>simp only[RT]at k2;rename_i jd sQ;obtain⟨k3,rfl⟩:=k2;obtain⟨d,k4,k5⟩:=bD h.env h6;have k6:=dg (tt:=tt) (t:=t) k5;rw[h7]at k6;have k7:=uX c1 k6;obtain⟨aiK,ds,m1,m2,m3⟩:=h.cells id l h4;rw[k3]at m1;cases m1;obtain⟨iJ,m4,m5⟩:=I5 m3 k7 h5;have K:jE ι S ι (S.set jd (.cells iJ)) λ_=>False:=λk k' _ hk=>⟨hk,by
     rw[aF];split;.rename_i e1;subst e1;exact vO (by rw[m2];simp) (by rw[m2];simp) (by rw[m2];simp)
     exact dY rfl⟩
    have hlt:=(az.1 m2).1;refine⟨bE,S.set jd (.cells iJ),ι,w,?_,?_,by simp only[RT],hw,λ_ _=>rfl,?_,AV k3,?_,AQ m2 (λe=>by cases e)⟩
    .have e1:d.cells.length=td.size:=by rw[iq k7];exact c2
     simp only[ah,ho,k1,k4,qc,h1,m2,e1,Vq k7 c3,decide_true,fV,if_true,m4,av]
    .refine⟨bu K _ _ h.env,λk l0 hk=>?_,λk e s hk t0 ht=>?_,λk k' hk=>?_,h.inj,λk b0 hk t0 ht=>?_⟩
     .simp only[aF]at hk;split at hk
      .rename_i e1;subst e1;split at hk;.cases hk;exact⟨jd,iJ,k3,by rw[aF,if_pos rfl,if_pos hlt],bu K _ _ m5⟩
       cases hk
      rename_i e1;obtain⟨k',MK,n1,n2,n3⟩:=h.cells k l0 hk;refine⟨k',MK,n1,?_,bu K _ _ n3⟩;rw[aF,if_neg ?_];.exact n2
      rintro rfl;exact e1 (h.inj _ _ _ k3 n1)
     .simp only[aF]at hk;split at hk;.split at hk<;>cases hk
      obtain⟨n,n1⟩:=h.own k e s hk t0 ht;exact⟨n,(K k t0 (λe=>e) ht).2.1 _ _ _ n1⟩
     .simp only[aF];split;.rename_i e1;subst e1;have:=(az.1 h4).1;exact⟨_,if_pos this,λe=>by cases e⟩
      exact h.qv k k' hk
     simp only[aF]at hk;split at hk;.split at hk<;>cases hk;trivial
     rename_i e1;rw[aF,if_neg];.exact h.mp k b0 hk t0 ht
     rintro rfl;exact e1 (h.inj _ _ _ k3 ht)
    .intro j hj;simp only[iy,ho,k1,bC]at hj;subst hj;exact⟨⟨id,by simp,hw _ _ k3⟩,.inr ⟨_,k3⟩⟩
    intro k hk;simp only[aF];split;.rename_i e1;subst e1;exact⟨some _,if_pos (az.1 h4).1⟩
    exact hB k hk
   cases hr
  cases hr
 cases hr
theorem RG{k k':TT}(h:k'=k){m:List k'.den}{rows:List DV}(hr:fS (CR k') k'.agg m rows):fS (CR k) k.agg (h▸m) rows:=by subst h;exact hr
theorem LR{k k':TT}(h:k'=k)(m:List k'.den):(h▸m:List k.den).length=m.length:=by subst h;rfl
theorem Cj{rows:List DV}(h:rows.isEmpty=true):rows=[]:=zi.1 h
theorem SN(h:bT ι te tS env S)(hB:oK B tS)(hw:Yw ι w)(hT:AJ tS nT)(hn:AK S aD){args:Array Operand}{argTypes:Array TypeId}(ho:o.op=.call {callee:=.builtin .append,args,argTypes})(hr:stepT P ty tt te tS o nT=some r)(hc:r.c):IE P ty aI call yf B ι w env S o aD r:=by
 simp only[stepT,ho]at hr;split at hr
 .rename_i x y t u ha ht;split at hr
  .rename_i QT;obtain⟨QT,hh⟩:=QT;subst QT;split at hr
   .rename_i e s lU ag sz z0 k l ap k' m _ h1 h2 h3;split at hr
    .rename_i k0 sz' z h4;split at hr
     .rename_i Gb;split at hr
      .rename_i pX;simp only[aA,dU,cC]at pX;obtain⟨⟨c1,c2⟩,c3⟩:=pX;simp only[af]at h2 h3;obtain⟨ux,e1,e2⟩:=h2;obtain⟨uy,e3,e4⟩:=h3;obtain⟨da,k1,k2⟩:=bD h.env e1;have k3:=dg (tt:=tt) (t:=t) k2;rw[e2]at k3;obtain⟨db,k4,k5⟩:=bD h.env e3;have k6:=dg (tt:=tt) (t:=t) k5;rw[e4]at k6;cases da<;>simp only[RT]at k3;rename_i rows tok f;cases db<;>simp only[RT]at k6;rename_i news ahq f';obtain⟨k3,kap⟩:=k3;obtain⟨k6,-⟩:=k6;have hla:=mI k3;have hlb:=mI k6;have k6':=RG Gb k6;have ade:=B9 k3 k6';have TA:(rows.all λr=>decide (r.cells.length=s))=true:=aT.2 λr hr=>js ((jQ k3 r hr).trans c3);have MJ:(news.all λr=>decide (r.cells.length=s))=true:=aT.2 λr hr=>js ((jQ k6' r hr).trans c3);have hx:(args[0]?).bind (jy env)=some (.sl rows tok f):=by
        have:args[0]? =some x:=by rw[<-kY,ha];rfl
        rw[this];exact k1
       have Kq:iy (jy env) o aD=match tok with|some t=>[t,aD]|none=>[aD]:=by simp only[iy,ho,hx];cases tok<;>rfl
       have Ud:l.length+m.length<=1000000000->(decide (0<s)&&decide ((rows.length+news.length)*lU<=fU)&&decide (rows.length+news.length<=140737488355328-4096)&&news.all (λr=>decide (r.cells.length=s)))=true:=by
        intro hle;simp only[aA,cC];rw[hla,hlb];refine⟨⟨⟨c1,?_⟩,by omega⟩,MJ⟩
        calc (l.length+m.length)*lU<=1000000000*100000:=Nat.mul_le_mul hle c2
         _<=fU:=by decide
       have hz:∀d S',jZ ty S aD t (.sl rows tok f) (.sl news ahq f')=some (d,S')->ah P ty aI call yf (jy env) o S aD=some (d,S'):=by intro d S' hd;simp only[ah,ho,ha,ht,if_true,k1,k4,hd]
       split at hr;.cases hr
       .cases hr
       .cases hr
       .obtain⟨c0,MD,hc0,VJ⟩:∃c,r=⟨.sl k (l++(Gb▸m)) (.kA nT),te,pK tS nT (.own e s),[nT],c⟩/\(l.length+m.length<=1000000000)/\(l.length=0\/m.length≠0):=by
         split at hr;.cases hr;exact⟨_,rfl,hc.1,hc.2⟩
         split at hr;.rename_i hf;cases hr;exact⟨_,rfl,hc,XQ hf⟩
         cases hr
        subst MD;obtain⟨rfl,yO⟩:=kap;have Zq:=Ud hc0;by_cases OM:news.isEmpty=true
        .have hm:m=[]:=fA (by rw[<-hlb,Cj OM];rfl);subst hm;refine⟨.sl rows none f,S,ι,upd w aD nT,hz _ _ (by simp only[jZ,h1,OM,if_true]),?_,?_,?_,?_,?_,Fr.refl _ _ _,kS hB hT,gM _ _⟩
         .refine⟨h.env,λk0 l0 hk=>?_,λk0 e0 s0 hk t0 Ga=>?_,λk0 k1 hk=>?_,h.inj,λk0 b0 hk t0 Ga=>?_⟩
          .rw[dc hT]at hk;split at hk;.cases hk
           exact h.cells _ _ hk
          .rw[dc hT]at hk;split at hk;.rename_i e5;subst e5;rw[h.new hT]at Ga;cases Ga
           exact h.own _ _ _ hk _ Ga
          .rw[dc hT];split;.exact⟨_,rfl,λe=>by cases e⟩
           exact h.qv _ _ hk
          rw[dc hT]at hk;split at hk;.cases hk;trivial
          exact h.mp _ _ hk _ Ga
         .simp only[RT];have hl0:l=[]:=by
           cases l with
           |nil=>rfl
           |cons a l=>simp at VJ
          refine⟨?_,.inl ⟨rfl,yO,by rw[hla,hl0];rfl⟩⟩;have e7:(Gb▸([]:List k'.den):List k.den)=[]:=fA (by rw[LR];rfl);rw[e7,cV];exact k3
         .intro a b qC;unfold upd;rw[if_neg (h.eA hn qC)];exact hw _ _ qC
         .intro j hj;unfold upd;rw[if_neg hj]
         intro j hj;rw[Kq,bC]at hj;exact⟨⟨nT,by simp,by simp[upd,hj]⟩,.inl hj⟩
        have K:=wE h hT hn (.tail e s ((rows.length+news.length)*s));refine⟨.sl (rows++news) (some aD) ⟨false,none⟩,eW S aD (.tail e s ((rows.length+news.length)*s)),upd ι nT aD,upd w aD nT,hz _ _ ?_,?_,?_,qG h hn hT hw,?_,?_,sX hn (nJ hB hT),kS hB hT,oR hn⟩;.simp only[jZ,h1,OM,aG,if_false,h4,Zq,if_true,yO,TA,fV]
        .refine⟨bu K _ _ h.env,λk0 l0 hk=>?_,λk0 e0 s0 hk t0 Ga=>?_,λk0 k1 hk=>?_,λi j k1 hi hj=>?_,λk0 b0 hk t0 Ga=>?_⟩
         .rw[dc hT]at hk;split at hk;.cases hk
          rename_i e5;obtain⟨k',iJ,n1,n2,n3⟩:=h.cells _ _ hk;exact⟨k',iJ,by simp only[upd,e5,if_false];exact n1,by rw[bF hn,if_neg (h.eA hn n1)];exact n2,bu K _ _ n3⟩
         .rw[dc hT]at hk;split at hk;.rename_i e5;cases hk;simp only[upd,e5,if_true,aB]at Ga;subst Ga;exact⟨_,by rw[bF hn,if_pos rfl]⟩
          rename_i e5;simp only[upd,e5,if_false]at Ga;obtain⟨n,n1⟩:=h.own _ _ _ hk _ Ga;exact⟨n,by rw[bF hn,if_neg (h.eA hn Ga)];exact n1⟩
         .rw[dc hT];split;.exact⟨_,rfl,λe=>by cases e⟩
          rename_i e5;simp only[upd,e5,if_false]at hk;exact h.qv _ _ hk
         .unfold upd at hi hj;split at hi<;>split at hj;.omega
          .cases hi;exact(h.eA hn hj rfl).elim
          .cases hj;exact(h.eA hn hi rfl).elim
          exact h.inj i j k1 hi hj
         rw[dc hT]at hk;split at hk;.cases hk;trivial
         rename_i e5;simp only[upd,e5,if_false]at Ga;rw[bF hn,if_neg (h.eA hn Ga)];exact h.mp _ _ hk _ Ga
        .simp only[RT];refine⟨ade,.inr ⟨aD,e,s,by simp[upd],rfl,?_⟩⟩;rw[bF hn,if_pos rfl,cD]
        .intro j hj;unfold upd;rw[if_neg hj]
        intro j hj;rw[Kq,bC]at hj;exact⟨⟨nT,by simp,by simp[upd,hj]⟩,.inl hj⟩
       rename_i g;split at hr
       .rename_i e' s' fR;split at hr
        .rename_i hes;simp only[aA,dU]at hes;obtain⟨rfl,rfl⟩:=hes;simp only[aB]at hr;subst hr;have Zq:=Ud hc;have htS:∀j,(tS.map (qA g))[j]? =(tS[j]?).map (qA g):=λj=>cR ..;have hgn:g≠nT:=by
          rintro rfl;rcases hT with hT|hT;.rw[hT]at fR;cases fR
          have:=(az.1 fR).1;omega
         have hBm:oK B (tS.map (qA g)):=λk hk=>by obtain⟨l0,h0⟩:=hB k hk;exact⟨l0.map (kE g),by rw[htS,h0];cases l0<;>rfl⟩
         have share:∀(ι':lq)(S':ai),jE ι S ι' S' (λk=>k=g)->(∀k k',k≠g->(ι' k=some k'↔ι k=some k'))->(∀k k' b,k≠g->ι k=some k'->(∀e s n,b≠.tail e s n)->S[k']? =some b->S'[k']? =some b)->
           (∀t,ι' g=some t->∃n,S'[t]? =some (.tail e' s' n))->(∀k k',k≠g->ι k=some k'->ι' g≠some k')->bT ι' (kE g te) (tS.map (qA g)) env S':=by
          intro ι' S' K hιe jm hg afw;refine⟨nG K _ _ h.env,λk0 l0 hk=>?_,λk0 e0 s0 hk t0 Ga=>?_,λk0 k1 hk=>?_,λi j k1 hi hj=>?_,λk0 b0 hk t0 Ga=>?_⟩
          .rw[htS]at hk;simp only[af]at hk;obtain⟨b,hb,Fw⟩:=hk;have hne:k0≠g:=by rintro rfl;rw[fR]at hb;cases hb;cases Fw
           cases b<;>simp only[qA]at Fw<;>first|(cases Fw;done)|skip
           rename_i lb;cases Fw;obtain⟨k',iJ,n1,n2,n3⟩:=h.cells _ _ hb;exact⟨k',iJ,(hιe _ _ hne).2 n1,jm _ _ _ hne n1 (λ_ _ _ e=>by cases e) n2,nG K _ _ n3⟩
          .rw[htS]at hk;simp only[af]at hk;obtain⟨b,hb,Fw⟩:=hk;cases b<;>simp only[qA]at Fw<;>first|(cases Fw;done)|skip
           cases Fw;by_cases hg0:k0=g;.subst hg0;rw[fR]at hb;cases hb;exact hg _ Ga
           have ht1:=(hιe _ _ hg0).1 Ga;obtain⟨n,n1⟩:=h.own _ _ _ hb _ ht1;exact⟨n,(K k0 t0 hg0 ht1).2.1 _ _ _ n1⟩
          .rw[htS];by_cases hg0:k0=g;.subst hg0;exact⟨_,by rw[fR];rfl,λe=>by cases e⟩
           obtain⟨b,n1,n2⟩:=h.qv _ _ ((hιe _ _ hg0).1 hk);exact⟨_,by rw[n1];rfl,λe=>by cases b<;>first|(exact n2 rfl)|cases e⟩
          .by_cases hig:i=g<;>by_cases hjg:j=g;.rw[hig,hjg]
           .subst hig;exact(afw _ _ hjg ((hιe _ _ hjg).1 hj) hi).elim
           .subst hjg;exact(afw _ _ hig ((hιe _ _ hig).1 hi) hj).elim
           exact h.inj i j k1 ((hιe _ _ hig).1 hi) ((hιe _ _ hjg).1 hj)
          rw[htS]at hk;simp only[af]at hk;obtain⟨b,hb,Fw⟩:=hk;by_cases hne:k0=g;.subst hne;rw[fR]at hb;cases hb;subst Fw;trivial
          have ht1:=(hιe _ _ hne).1 Ga;have h1:=h.mp _ _ hb _ ht1;subst Fw;cases b with
          |map kt l=>exact jm _ _ _ hne ht1 (λ_ _ _ e=>by cases e) h1
          |rows t e l z=>obtain⟨q0,q1,ds,q2,q3⟩:=h1;exact⟨q0,q1,ds,jm _ _ _ hne ht1 (λ_ _ _ e=>by cases e) q2,q3⟩
          |loop=>obtain⟨r,q2,q3⟩:=h1;exact⟨r,jm _ _ _ hne ht1 (λ_ _ _ e=>by cases e) q2,q3⟩
          |_=>trivial
         by_cases OM:news.isEmpty=true
         .have hm:m=[]:=fA (by rw[<-hlb,Cj OM];rfl);subst hm;have e7:(Gb▸([]:List k'.den):List k.den)=[]:=fA (by rw[LR];rfl);refine⟨.sl rows tok f,S,ι,upd w aD nT,hz _ _ (by simp only[jZ,h1,OM,if_true]),share ι S (λk k' _ hk=>⟨hk,dY rfl⟩) (λ_ _ _=>Iff.rfl) (λ_ _ _ _ _ _ h=>h) (λt ht=>h.own g _ _ fR t ht) (λk k' hk h1 h2=>hk (h.inj _ _ _ h1 h2)),?_,?_,?_,?_,Fr.refl _ _ _,hBm,gM _ _⟩;.simp only[RT];rw[e7,cV];exact⟨k3,kap⟩
          .intro a b qC;unfold upd;rw[if_neg (h.eA hn qC)];exact hw _ _ qC
          .intro j hj;unfold upd;rw[if_neg hj]
          intro j hj;rw[Kq]at hj;cases tok with
          |none=>simp only[bC]at hj;exact⟨⟨nT,by simp,by simp[upd,hj]⟩,.inl hj⟩
          |some tk=>
           simp only[bz,fq,or_false]at hj;rcases hj with rfl|rfl
           .rcases kap with ⟨h0,-⟩|⟨t0,e0,s0,a1,a2,a3⟩;.cases h0
            cases a2;exact⟨⟨g,by simp,by simp only[upd,h.eA hn a1,if_false];exact hw _ _ a1⟩,.inr ⟨_,a1⟩⟩
           exact⟨⟨nT,by simp,by simp[upd]⟩,.inl rfl⟩
         rcases kap with ⟨rfl,yO,ai2⟩|⟨t0,e0,s0,a1,rfl,a3⟩
         .have JY:jE ι S (upd ι g aD) (eW S aD (.tail e' s' ((rows.length+news.length)*s'))) (λk=>k=g):=λk k' hk h2=>⟨by simp only[upd,hk,if_false];exact h2,dY (by rw[bF hn,if_neg (h.eA hn h2)])⟩;refine⟨.sl (rows++news) (some aD) ⟨false,none⟩,eW S aD (.tail e' s' ((rows.length+news.length)*s')),upd ι g aD,λj=>if j=aD then some g else w j,hz _ _ ?_,share _ _ JY (λk k' hk=>by simp only[upd,hk,if_false]) (λk k' ds hk h2 _ h3=>by rw[bF hn,if_neg (h.eA hn h2)];exact h3) (λt ht=>?_) (λk k' hk h2 h3=>?_),?_,?_,?_,?_,sX hn (abi hB fR),hBm,oR hn⟩;.simp only[jZ,h1,OM,aG,if_false,h4,Zq,if_true,yO,TA,fV]
          .simp only[upd,if_true,aB]at ht;subst ht;exact⟨_,by rw[bF hn,if_pos rfl]⟩
          .simp only[upd,if_true,aB]at h3;exact h.eA hn h2 h3.symm
          .simp only[RT];refine⟨ade,.inr ⟨aD,e',s',by simp[upd],rfl,?_⟩⟩;rw[bF hn,if_pos rfl,cD]
          .intro a b qC;unfold upd at qC;split at qC;.rename_i e9;subst e9;cases qC;simp
           show(if b=aD then some g else w b)=some a;rw[if_neg (h.eA hn qC)];exact hw _ _ qC
          .intro j hj;show(if j=aD then some g else w j)=w j;rw[if_neg hj]
          intro j hj;rw[Kq,bC]at hj;exact⟨⟨g,by simp,by simp[hj]⟩,.inl hj⟩
         obtain⟨n,a4⟩:=h.own g _ _ fR t0 a1;rw[a3]at a4;cases a4;have hne:t0≠aD:=h.eA hn a1;have hlt:=(az.1 a3).1;have bh:∀j,j≠t0->(S.set t0 (.tail e' s' ((rows.length+news.length)*s')))[j]? =S[j]? :=λj hj=>by rw[aF,if_neg (Ne.symm hj)]
         have JY:jE ι S ι (S.set t0 (.tail e' s' ((rows.length+news.length)*s'))) (λk=>k=g):=λk k' hk h2=>⟨h2,dY (by rw[bh k' (λe9=>hk (h.inj _ _ _ h2 (by rw[e9];exact a1)))])⟩;refine⟨.sl (rows++news) (some t0) ⟨false,none⟩,S.set t0 (.tail e' s' ((rows.length+news.length)*s')),ι,λj=>if j=aD then some nT else w j,hz _ _ ?_,share _ _ JY (λ_ _ _=>Iff.rfl) (λk k' ds hk h2 _ h3=>by rw[bh k' (λe9=>hk (h.inj _ _ _ h2 (by rw[e9];exact a1)))];exact h3) (λt ht=>?_) (λk k' hk h2 h3=>hk (h.inj _ _ _ h2 h3)),?_,?_,?_,?_,AV a1,hBm,AQ a3 (λe=>by cases e)⟩;.simp only[jZ,h1,OM,aG,if_false,h4,Zq,if_true,a3,decide_true,fV]
         .rw[a1]at ht;cases ht;exact⟨_,by rw[aF,if_pos rfl,if_pos hlt]⟩
         .simp only[RT];refine⟨ade,.inr ⟨t0,e',s',a1,rfl,?_⟩⟩;rw[aF,if_pos rfl,if_pos hlt,cD]
         .intro a b qC;show(if b=aD then some nT else w b)=some a;rw[if_neg (h.eA hn qC)];exact hw _ _ qC
         .intro j hj;show(if j=aD then some nT else w j)=w j;rw[if_neg hj]
         intro j hj;rw[Kq]at hj;simp only[bz,fq,or_false]at hj;rcases hj with rfl|rfl;.exact⟨⟨g,by simp,by simp only[hne,if_false];exact hw _ _ a1⟩,.inr ⟨_,a1⟩⟩
         exact⟨⟨nT,by simp,by simp⟩,.inl rfl⟩
        cases hr
       cases hr
      cases hr
     cases hr
    cases hr
   cases hr
  cases hr
 cases hr
theorem Wq(h:bT ι te tS env S)(hB:oK B tS)(hw:Yw ι w)(hT:AJ tS nT)(hn:AK S aD)(hr:stepT P ty tt te tS o nT=some r)(hc:r.c):IE P ty aI call yf B ι w env S o aD r:=by
 have pure:(bP P ty tt te tS o).map (λr=>(⟨r.1,te,tS,lD te o,r.2⟩:TR))=some r->(∀j∈iy (jy env) o aD,(∃k∈lD te o,w j=some k)/\(j=aD\/∃i,ι i=some j))->IE P ty aI call yf B ι w env S o aD r:=by intro hp hf;simp only[af]at hp;obtain⟨⟨v,c⟩,h1,rfl⟩:=hp;obtain⟨d,h2,h3⟩:=Lc (aI:=aI) (call:=call) (yf:=yf) (aD:=aD) h.env h.cells h1 hc;exact⟨d,S,ι,w,h2,h,h3,hw,λ_ _=>rfl,hf,Fr.refl _ _ _,hB,gM _ _⟩
 have quiet:iy (jy env) o aD=[]->(∀j∈iy (jy env) o aD,(∃k∈lD te o,w j=some k)/\(j=aD\/∃i,ι i=some j)):=λe j hj=>by rw[e]at hj;cases hj
 cases ho:o.op with
 |alloc e=>
  simp only[stepT,ho]at hr;split at hr;.rename_i k sz z h1;cases hr;refine⟨.ptr aD 0,eW S aD (.cells z),upd ι nT aD,upd w aD nT,by simp only[ah,ho,h1],xw h hT hn (vG z),by simp[RT,upd],qG h hn hT hw,λj hj=>by simp only[upd,hj,if_false],λj hj=>?_,sX hn (nJ hB hT),kS hB hT,oR hn⟩;simp only[iy,ho,bC]at hj;exact⟨⟨nT,by simp,by simp[upd,hj]⟩,.inl hj⟩
  cases hr
 |box t x=>
  simp only[stepT,ho]at hr;split at hr
  .rename_i v h1;split at hr;.rename_i hk;cases hr;obtain⟨d,k1,k2⟩:=bD h.env h1;refine⟨.ptr aD 0,eW S aD (.cells d.cells),upd ι nT aD,upd w aD nT,by simp only[ah,ho,k1],xw h hT hn (uX hk k2),by simp[RT,upd],qG h hn hT hw,λj hj=>by simp only[upd,hj,if_false],λj hj=>?_,sX hn (nJ hB hT),kS hB hT,oR hn⟩;simp only[iy,ho,bC]at hj;exact⟨⟨nT,by simp,by simp[upd,hj]⟩,.inl hj⟩
   cases hr
  cases hr
 |store t a x=>exact Wo h hB hw ho hr
 |load t a=>
  simp only[stepT,ho]at hr;refine pure hr λj hj=>?_;simp only[iy,ho]at hj;split at hj
  .rename_i jd sQ h1;simp only[bC]at hj;subst hj;simp only[af,bP,ho]at hr;obtain⟨q,h2,-⟩:=hr;split at h2;.rename_i td id off h3 h4;obtain⟨d,k1,k2⟩:=bD h.env h4;rw[h1]at k1;cases k1;simp only[RT]at k2;exact⟨⟨id,by simp[lD,ho,h4],hw _ _ k2.1⟩,.inr ⟨_,k2.1⟩⟩
   .rename_i td e l i off h3 h4;obtain⟨d,k1,k2⟩:=bD h.env h4;rw[h1]at k1;cases k1;simp only[RT]at k2
   cases h2
  .rename_i jd n' sQ h1;simp only[af,bP,ho]at hr;obtain⟨q,h2,-⟩:=hr;split at h2;.rename_i td id off h3 h4;obtain⟨d,k1,k2⟩:=bD h.env h4;rw[h1]at k1;cases k1;simp only[RT]at k2
   .rename_i td e l i off h3 h4;obtain⟨d,k1,k2⟩:=bD h.env h4;rw[h1]at k1;cases k1;simp only[RT]at k2
   cases h2
  cases hj
 |call cl=>
  obtain⟨callee,args,argTypes⟩:=cl;cases callee with
  |builtin b=>
   cases b with
   |append=>exact SN h hB hw hT hn ho hr hc
   |_=>simp only[stepT,ho]at hr;exact pure hr (quiet (by simp only[iy,ho]))
  |_=>simp only[stepT,ho]at hr;exact pure hr (quiet (by simp only[iy,ho]))
 |_=>simp only[stepT,ho]at hr;exact pure hr (quiet (by simp only[iy,ho]))
end Go.Tv
namespace Go.Tv
open Go Go.Di
def Q0:TV:=.val (.tuple #[])
def ki(te:List TV)(dst:Option Tmp)(v:TV):List TV:=
 match dst with
 |some d=>te.set d v
 |none=>te
def eD(ops:Array Oper)(te:List TV)(o:Oper):Option Bool:=
 match o.guard with
 |none=>some true
 |some (j,want)=>match(ops[j]?).bind (·.dst)with
  |some d=>match te[d]? with
   |some (.val (.bool b))=>some (match want with|true=>b|false=>!b)
   |some .unk=>none
   |some (.val _)=>some false
   |_=>none
  |none=>some false
def nU(o:Oper):Bool:=
 match o.op with
 |.alloc _|.box .. |.store .. =>true
 |.call {callee:=.builtin .append,.. }=>true
 |_=>false
def aeG(o:Oper):Bool:=
 match o.op with
 |.call {callee:=.value _,.. }=>true
 |_=>false
def Az(tS:List TB)(nT:Nat):Bool:=
 match tS[nT]? with
 |some .none=>true
 |none=>nT==tS.length
 |_=>false
section
variable (P:Program) (ty:fP) (tt:TypeId->Option TT)
end
section
variable {P:Program} {ty:fP} {tt:TypeId->Option TT} {ι ι' w:lq} {S S':ai} {te:List TV} {env:List DV} {tS:List TB} {aI:bS} {call:bt} {yf:ew} {o:Oper} {aD nT:Nat} {B:List Nat} {r:TR} {ops:Array Oper}
theorem aeo{v:TV}{d:DV}(h:cQ ι S te env)(hv:RT ι S v d)(dst:Option Tmp):cQ ι S (ki te dst v) (kC env dst d):=by
 cases dst with
 |none=>exact h
 |some t=>exact C2 t h hv
theorem Na:RT ι S Q0 bE:=by simp only[Q0,bE,RT]
theorem iP(h:cQ ι S te env){b:Bool}(hw:eD ops te o=some b):cI ops env o=b:=by
 unfold eD at hw;unfold cI;split at hw;.rename_i e;cases hw;rw[e]
 rename_i j want e;rw[e];dsimp only;split at hw
 .rename_i d e1;rw[e1];dsimp only;split at hw;.rename_i b' e2;cases hw;obtain⟨d',k1,k2⟩:=vH h e2;cases d'<;>simp only[RT]at k2;subst k2;rw[k1];cases b'<;>cases want<;>rfl
  .cases hw
  .rename_i v hv e2;cases hw;obtain⟨d',k1,k2⟩:=vH h e2;cases d'<;>simp only[RT]at k2;rw[k2]at k1;rw[k1];cases v<;>first|rfl|exact(hv _ rfl).elim
  cases hw
 rename_i e1;cases hw;rw[e1]
theorem aax(h:Az tS nT=true):AJ tS nT:=by
 unfold Az at h;split at h;.rename_i e;exact .inl e
 .exact .inr (by simpa using h)
 cases h
def KF(w:lq)(f ft:dm):Prop:=(f.wr=true->ft.wr=true)/\∀l,ft.ids=some l->∃m,f.ids=some m/\∀j∈m,∃k∈l,w j=some k
def Does(P:Program)(ty:fP)(aI:bS)(call:bt)(yf:ew)(B:List Nat)(o:Oper)(nT:Nat)(te:List TV)(tS:List TB)(dr:Bool)(Q:TV->List TV->List TB->dm->Prop):Prop:=
 ∀ι w env S aD,bT ι te tS env S->oK B tS->Yw ι w->AJ tS nT->AK S aD->(dr=true->S[aD]? =some .none)->
  ∃d S' ι' w' v bZ bN f ft,(dr=false->ah P ty aI call yf (jy env) o S aD=some (d,S'))/\(dr=true->aJ P ty aI call yf (jy env) o S aD=some (d,S',f))/\KF w' f ft/\(∀l m,ft.ids=some l->f.ids=some m->∀j∈m,j=aD\/∃i,ι i=some j)/\
   bT ι' bZ bN env S'/\RT ι' S' v d/\Yw ι' w'/\(dr=true->∀j,j≠aD->w' j=w j)/\Fr B ι S ι' S'/\oK B bN/\Nn aD S S'/\Q v bZ bN ft
theorem lQ(h:stepT P ty tt te tS o nT=some r)(hc:r.c)(dr:Bool):Does P ty aI call yf B o nT te tS dr λv bZ bN ft=>v=r.v/\bZ=r.te/\bN=r.tS/\ft=⟨some r.FQ,nU o⟩:=by
 intro ι w env S aD hR hB hw hT hn hS;obtain⟨d,S',ι',w',h1,h2,h3,h4,h5,h6,h7,h8,h9⟩:=Wq (aI:=aI) (call:=call) (yf:=yf) hR hB hw hT hn h hc;refine⟨d,S',ι',w',r.v,r.te,r.tS,⟨some (iy (jy env) o aD),nU o⟩,⟨some r.FQ,nU o⟩,λ_=>h1,λhd=>?_,⟨id,λl hl=>⟨_,rfl,λj hj=>by cases hl;exact(h6 j hj).1⟩⟩,λl m hl hm j hj=>by cases hm;exact(h6 j hj).2,h2,h3,h4,λ_=>h5,h7,h8,h9,rfl,rfl,rfl,rfl⟩;have dA:=hS hd;cases ho:o.op with
 |alloc e=>simp only[aJ,ho,dA,h1,av,iy,nU]
 |box t x=>simp only[aJ,ho,dA,h1,av,iy,nU]
 |store t a x=>
  have:∃id off,jy env a=some (.ptr id off):=by
   simp only[ah,ho]at h1;split at h1
   .rename_i a' v' e1 e2;simp only[af]at h1;obtain⟨q,h1,-⟩:=h1;unfold qc at h1;split at h1;.exact⟨_,_,e1⟩
    .simp only[stepT,ho]at h;split at h;.rename_i t1 t2 t3;obtain⟨d9,t4,t5⟩:=bD hR.env t2;rw[e1]at t4;cases t4;simp only[RT]at t5
     cases h
    cases h1
   cases h1
  obtain⟨id,off,e⟩:=this;simp only[aJ,ho,e,h1,av,iy,nU]
 |load t a=>
  cases e:jy env a with
  |none=>simp only[ah,ho,e]at h1;cases h1
  |some da=>cases da<;>simp only[aJ,ho,e,h1,av,iy,nU]
 |makeMap t x=>simp only[stepT,bP,ho,mA]at h;cases h
 |makeSlice t x y=>simp only[stepT,bP,ho,mA]at h;cases h
 |buildSlice t n ps=>
  have hh:ty.h o≠1:=by
   simp only[stepT,bP,ho]at h;intro e;split at h
   .split at h;.simp[e]at h
    cases h
   cases h
  simp only[aJ,ho,h1,av,iy,nU]
 |fieldAddr t a f'=>
  cases e:jy env a with
  |none=>simp only[ah,ho,e]at h1;split at h1<;>simp_all
  |some da=>
   cases da with
   |gD id n off=>
    simp only[stepT,bP,ho]at h;split at h;.rename_i t1 t2;obtain⟨d9,t4,t5⟩:=bD hR.env t2;rw[e]at t4;cases t4;simp only[RT]at t5
    .rename_i t1 t2;obtain⟨d9,t4,t5⟩:=bD hR.env t2;rw[e]at t4;cases t4;simp only[RT]at t5
    cases h
   |_=>simp only[aJ,ho,e,h1,av,iy,nU]
 |indexAddr t a i=>
  cases e:jy env a with
  |none=>simp only[ah,ho,e]at h1;split at h1<;>simp_all
  |some da=>
   cases da with
   |jx id n ag=>
    simp only[stepT,bP,ho]at h;split at h;.rename_i t1 t2 t3;simp only[af]at t2;obtain⟨u,t2,t6⟩:=t2;obtain⟨d9,t4,t5⟩:=bD hR.env t2;rw[e]at t4;cases t4;have t7:=dg (tt:=tt) (t:=t) t5;rw[t6]at t7;simp only[RT]at t7
    .rename_i t1 t2 t3;simp only[af]at t2;obtain⟨u,t2,t6⟩:=t2;obtain⟨d9,t4,t5⟩:=bD hR.env t2;rw[e]at t4;cases t4;have t7:=dg (tt:=tt) (t:=t) t5;rw[t6]at t7;simp only[RT]at t7
    .rename_i t1 t2 t3;simp only[af]at t2;obtain⟨u,t2,t6⟩:=t2;obtain⟨d9,t4,t5⟩:=bD hR.env t2;rw[e]at t4;cases t4;have t7:=dg (tt:=tt) (t:=t) t5;rw[t6]at t7;simp only[RT]at t7
    cases h
   |_=>simp only[aJ,ho,e,h1,av,iy,nU]
 |lookup t m k b=>simp only[stepT,bP,ho,mA]at h;cases h
 |mapUpdate t m k b=>simp only[stepT,bP,ho,mA]at h;cases h
 |call cl=>
  obtain⟨callee,args,argTypes⟩:=cl;cases callee with
  |builtin b=>
   cases b with
   |append=>
    have key:ty.h o≠1/\∀id n ag,(args[0]?).bind (jy env)≠some (.jx id n ag):=by
     simp only[stepT,ho]at h;split at h
     .rename_i x y t u ha ht;split at h
      .rename_i QT;refine⟨QT.2,λid n ag he=>?_⟩;have h0:args[0]? =some x:=by rw[<-kY,ha];rfl
       rw[h0]at he
       replace he:jy env x=some (.jx id n ag):=he
       split at h;.rename_i t1 t2 t3;simp only[af]at t2;obtain⟨u,t2,t6⟩:=t2;obtain⟨d9,t4,t5⟩:=bD hR.env t2;rw[he]at t4;cases t4;have t7:=dg (tt:=tt) (t:=t) t5;rw[t6]at t7;simp only[RT]at t7
       cases h
      cases h
     cases h
    cases e:(args[0]?).bind (jy env)with
    |none=>simp only[aJ,ho,dA,e,h1,av,iy,nU,if_neg key.1,DD,aG,if_false]
    |some da=>
     cases da with
     |sl rows tok f=>cases tok<;>simp only[aJ,ho,dA,e,h1,av,iy,nU,if_neg key.1,DD,aG,if_false]
     |jx id n ag=>exact absurd e (key.2 id n ag)
     |_=>simp only[aJ,ho,dA,e,h1,av,iy,nU,if_neg key.1,DD,aG,if_false]
   |_=>simp only[aJ,ho,h1,av,iy,nU]
  |value f=>simp only[stepT,bP,ho,mA]at h;cases h
  |_=>simp only[aJ,ho,h1,av,iy,nU]
 |_=>simp only[aJ,ho,h1,av,iy,nU]
def WL(P:Program)(ty:fP)(aI:bS)(call:bt)(yf:ew)(B:List Nat)(ops:Array Oper)(k:Nat)(te:List TV)(tS:List TB)(Q:List TV->List TB->Prop):Prop:=
 ∀ι env S,bT ι te tS env S->oK B tS->∃aK S' ι' bZ bN,HX P ty aI call yf ops (ops.toList.drop k) env S=some (aK,S')/\bT ι' bZ bN aK S'/\oK B bN/\Fr B ι S ι' S'/\Nn S.length S S'/\Q bZ bN
theorem M7(h:bT ι te tS env S):∃w,Yw ι w:=by refine⟨λk'=>(Classical.epsilon λo:Option Nat=>∀k,ι k=some k'->o=some k),λk k' hk=>?_⟩;have:∃o:Option Nat,∀j,ι j=some k'->o=some j:=⟨some k,λj hj=>congrArg some (h.inj _ _ _ hk hj)⟩;exact Classical.epsilon_spec this k hk
theorem uZ{xE:ai}(h:Nn S.length S S')(k:Nn S'.length S' xE):Nn S.length S xE:=by refine⟨bp h.1 k.1,λj hj hn=>?_⟩;have h1:=h.2 j hj hn;have:=(az.1 h1).1;exact k.2 j (by omega) h1
theorem oP(h:bT ι te tS env S){v:TV}{d:DV}(hv:RT ι S v d)(dst:Option Tmp):bT ι (ki te dst v) tS (kC env dst d) S:=⟨aeo h.env hv dst,h.cells,h.own,h.qv,h.inj,h.mp⟩
theorem oV{k:Nat}(ho:ops[k]? =some o):ops.toList.drop k=o::ops.toList.drop (k+1):=by
 have h:ops.toList[k]? =some o:=by simpa using ho
 obtain⟨hk,rfl⟩:=az.1 h;exact pg hk
theorem adV{k:Nat}(hk:ops.size<=k){Q:List TV->List TB->Prop}(h:Q te tS):WL P ty aI call yf B ops k te tS Q:=by intro ι env S hR hB;rw[j5 (by simpa using hk)];exact⟨env,S,ι,te,tS,rfl,hR,hB,Fr.refl _ _ _,gM _ _,h⟩
theorem ZH{k:Nat}(ho:ops[k]? =some o)(hw:eD ops te o=some false){Q:List TV->List TB->Prop}
  (h:WL P ty aI call yf B ops (k+1) (ki te o.dst Q0) tS Q):WL P ty aI call yf B ops k te tS Q:=by
 intro ι env S hR hB;obtain⟨aK,xE,ι'',ur,uu,k1,k2,k3,k4,k5,k6⟩:=h ι (kC env o.dst bE) S (oP hR Na _) hB;refine⟨aK,xE,ι'',ur,uu,?_,k2,k3,k4,k5,k6⟩;rw[oV ho];simp only[HX,iP hR.env hw,aG,if_false,k1]
theorem Ml{k:Nat}{r:List Oper}(h:ops.toList.drop k=o::r):ops[k]? =some o/\r=ops.toList.drop (k+1):=by
 have h1:ops.toList[k]? =some o:=by have:=congrArg (·[0]?) h;simpa using this
 refine⟨by simpa using h1,?_⟩;have:=congrArg List.tail h;simpa using this.symm
end
end Go.Tv
