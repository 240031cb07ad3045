import Derived.Test.YtedcgbkilmlbhaaPk02
namespace Go.Tv
open Go Go.Di
mutual
def tT(g:Nat):TV->TV
 |.sl t l (.je k)=>if k=g then .sl t l .no else .sl t l (.je k)
 |.sl t l (.Cf _)=>.sl t l .no
 |.ptr id off=>if id=g then .unk else .ptr id off
 |.mp id=>if id=g then .unk else .mp id
 |.so id t=>if id=g then .unk else .so id t
 |.sp id t i off=>if id=g then .unk else .sp id t i off
 |.od k fn te=>if k=g then .unk else .od k fn (kB g te)
 |.agg l=>.agg (kB g l)
 |.tup l=>.tup (kB g l)
 |.fn f a b=>.fn f (kB g a) (kB g b)
 |v=>v
def kB(g:Nat):List TV->List TV
 |[]=>[]
 |a::l=>tT g a::kB g l
end
def qp(g:Nat):TB->TB
 |.cells l=>.cells (kB g l)
 |b=>b
def oG(tS:List TB)(i:Nat)(b:TB):List TB:=if i<tS.length then tS.set i b else tS++[b]
def acI:TV->Bool
 |.val v=>!(v matches .tuple _)
 |.unk|.agg _|.tup _=>false
 |_=>true
def Nq{α β:Type}(l:List α)(m:List β):Bool:=
 match l with
 |[]=>true
 |_::_=>match m with
  |[]=>false
  |_::_=>true
theorem XD{α β:Type}{l:List α}{m:List β}(h:Nq l m=true):l.length=0\/m.length≠0:=by unfold Nq at h;cases l<;>cases m<;>simp_all
structure TR where
 v:TV
 te:List TV
 tS:List TB
 FI:List Nat
 c:Prop
section
variable (P:Program) (ty:fR) (tt:TypeId->Option TT)
def lu(te:List TV)(o:Oper):List Nat:=
 match o.op with
 |.load _ a=>match fK te a with
  |some (.ptr id _)=>[id]
  |_=>[]
 |_=>[]
def stepT(te:List TV)(tS:List TB)(o:Oper)(nT:Nat):Option TR:=
 match o.op with
 |.alloc e=>match ty e with
  |some ⟨_,_,some z⟩=>some ⟨.ptr nT 0,te,oG tS nT (.cells (z.map tH)),[nT],True⟩
  |_=>none
 |.box _ x=>match fK te x with
  |some d=>if d.known then some ⟨.ptr nT 0,te,oG tS nT (.cells d.cells),[nT],True⟩else none
  |none=>none
 |.store t a x=>match ty t,fK te a,(fK te x).map (fM tt t)with
  |some d,some (.ptr id off),some v=>match tS[id]? with
   |some (.cells l)=>if v.known&&v.cells.length==d.size&&v.cells.all acI then(MA l off v.cells).map λl'=>⟨.unk,te,tS.set id (.cells l'),[id],True⟩else none
   |_=>none
  |_,_,_=>none
 |.call {callee:=.builtin .append,args,argTypes}=>match args.toList,argTypes.toList with
  |[x,y],[t,u]=>if t=u/\ty.h o≠1 then match ty t,(fK te x).map (fM tt t),(fK te y).map (fM tt t)with
   |some ⟨.slice e s lR _,_,_⟩,some (.sl k l ap),some (.sl k' m _)=>match ty e with
    |some ⟨_,_,some _⟩=>if h:k'=k then
     if decide (0<s)&&decide (lR<=100000)&&k.size==s then match ap with
      |.no|.stop _|.Cf _=>none
      |.full=>match ty.h o==3 with
       |true=>some ⟨.sl k (l++(h▸m)) (.je nT),te,oG tS nT (.own e s),[nT],l.length+m.length<=1000000000/\(l.length=0\/m.length≠0)⟩
       |false=>if Nq l m then some ⟨.sl k (l++(h▸m)) (.je nT),te,oG tS nT (.own e s),[nT],l.length+m.length<=1000000000⟩else none
      |.je g=>match tS[g]? with
       |some (.own e' s')=>if e'==e&&s'==s then some ⟨.sl k (l++(h▸m)) (.je g),kB g te,tS.map (qp g),[g,nT],l.length+m.length<=1000000000⟩else none
       |_=>none
     else none
     else none
    |_=>none
   |_,_,_=>none
   else none
  |_,_=>none
 |_=>(bQ P ty tt te tS o).map λr=>⟨r.1,te,tS,lu te o,r.2⟩
end
def ig(ρ:Operand->Option DV)(o:Oper)(aF:Nat):List Nat:=
 match o.op with
 |.alloc _|.box .. =>[aF]
 |.store _ a _=>match ρ a with
  |some (.ptr id _)=>[id]
  |_=>[]
 |.load _ a=>match ρ a with
  |some (.ptr id _)=>[id]
  |some (.gu id _ _)=>[id]
  |_=>[]
 |.call {callee:=.builtin .append,args,.. }=>match(args[0]?).bind ρ with
  |some (.sl _ (some t) _)=>[t,aF]
  |_=>[aF]
 |_=>[]
def F5:(t:TT)->t.den->List Value
 |.int k,n=>[.int k n]
 |.bool,b=>[.bool b]
 |.str,s=>[.string s]
 |.unit,_=>[]
 |.pair a b,x=>F5 a x.1++F5 b x.2
 |.sl _,_=>[]
def mM(t:TT)(x:t.den):Value:=.agg (F5 t x).toArray
def sE(t:TT)(l:List t.den):List (Value×Value):=l.map λx=>(mM t x,.bool true)
def fO(t:TT):List t.den->List DV->Prop
 |[],ds=>ds=[]
 |x::l,ds=>∃c m,ds=c++m/\CR t x c/\fO t l m
def adv:TB->Option DB->Prop
 |.map kt l,b=>b=some (.map (sE kt l))
 |.rows t e l z,b=>0<t.size/\(t.agg||t.size==1)=true/\∃ds,b=some (.op e t.size ds z)/\fO t l ds
 |.loop,b=>∃r,b=some (.loop r)/\r.st=.ready/\r.kz=none
 |_,_=>True
structure bT (ι:kY) (te:List TV) (tS:List TB) (env:List DV) (S:ai):Prop where
 env:cK ι S te env
 cells:Ix ι S tS
 own:∀k e s,tS[k]? =some (.own e s)->∀t,ι k=some t->∃n,S[t]? =some (.tail e s n)
 ql:∀k k',ι k=some k'->∃b,tS[k]? =some b/\b≠.none
 inj:∀i j k',ι i=some k'->ι j=some k'->i=j
 mp:∀k b,tS[k]? =some b->∀t,ι k=some t->adv b S[t]?
def Yk(ι:kY)(w:kY):Prop:=∀k k',ι k=some k'->w k'=some k
section
variable {P:Program} {ty:fR} {tt:TypeId->Option TT} {ι ι' w:kY} {S S':ai} {te:List TV} {env:List DV} {tS:List TB} {aK:bR} {call:bt} {yf:ej} {o:Oper} {aF nT:Nat} {r:TR}
def Nv(a b:Option DB):Prop:=(∀e s n,a=some (.tail e s n)->b=some (.tail e s n))/\(∀e s l z,a=some (.op e s l z)->∃l' z',b=some (.op e s l' z')/\l'.length=l.length)/\∀r,a=some (.loop r)->b=some (.loop r)
theorem dO{a b:Option DB}(h:b=a):Nv a b:=by subst h;exact⟨λ_ _ _ h=>h,λ_ _ l z h=>⟨l,z,h,rfl⟩,λ_ h=>h⟩
theorem vH{a b:Option DB}(h1:∀e s n,a≠some (.tail e s n))(h2:∀e s l z,a≠some (.op e s l z))(h3:∀r,a≠some (.loop r)):Nv a b:=⟨λ_ _ _ h=>absurd h (h1 _ _ _),λ_ _ _ _ h=>absurd h (h2 _ _ _ _),λ_ h=>absurd h (h3 _)⟩
def jy(ι:kY)(S:ai)(ι':kY)(S':ai)(bad:Nat->Prop):Prop:=∀k k',¬bad k->ι k=some k'->ι' k=some k'/\Nv S[k']? S'[k']?
theorem Qs{n:Nat}{tok:Option Nat}{f:SF}{ap:Ap}{bad:Nat->Prop}(h:jy ι S ι' S' bad)(hb:∀g,ap=.je g\/ap=.Cf g->¬bad g)(k:pL ι S n tok f ap):pL ι' S' n tok f ap:=by
 cases ap with
 |no=>trivial
 |full=>exact k
 |je g=>refine k.imp id λ⟨t,e,s,h1,h2,h3⟩=>?_;obtain⟨h4,h5⟩:=h g t (hb g (.inl rfl)) h1;exact⟨t,e,s,h4,h2,h5.1 _ _ _ h3⟩
 |stop b=>trivial
 |Cf g=>refine k.imp id λ⟨t,e,s,h1,h2,h3⟩=>?_;obtain⟨h4,h5⟩:=h g t (hb g (.inr rfl)) h1;exact⟨t,e,s,h4,h2,h5.1 _ _ _ h3⟩
mutual
theorem Z1(h:jy ι S ι' S' λ_=>False):∀(v:TV)(d:DV),RT ι S v d->RT ι' S' v d
 |.unk,_,_=>by simp only[RT]
 |.val _,d,k=>by cases d<;>simp only[RT]at k⊢;exact k
 |.ax,d,k=>by cases d<;>simp only[RT]at k⊢;exact k
 |.agg l,d,k=>by cases d<;>simp only[RT]at k⊢;exact bu h l _ k
 |.tup l,d,k=>by cases d<;>simp only[RT]at k⊢;exact bu h l _ k
 |.sl t l ap,d,k=>by cases d<;>simp only[RT]at k⊢;exact⟨k.1,Qs h (λ_ _=>id) k.2⟩
 |.ptr id off,d,k=>by cases d<;>simp only[RT]at k⊢;exact⟨(h _ _ (λe=>e) k.1).1,k.2⟩
 |.fq t l i off,d,k=>by cases d<;>simp only[RT]at k⊢;exact k
 |.mp id,d,k=>by cases d<;>simp only[RT]at k⊢;exact(h _ _ (λe=>e) k).1
 |.so g t,d,k=>by cases d<;>simp only[RT]at k⊢;obtain⟨k1,k2,e,s,l,z,k3,k4⟩:=k;obtain⟨h1,h2⟩:=h _ _ (λe=>e) k1;obtain⟨l',z',h3,h4⟩:=h2.2.1 e s l z k3;exact⟨h1,k2,e,s,l',z',h3,by omega⟩
 |.od k0 fn te,d,k=>by cases d<;>simp only[RT]at k⊢;obtain⟨k1,ps,a,b,env,Bp,k4,k2,k3⟩:=k;obtain⟨h1,h2⟩:=h _ _ (λe=>e) k1;exact⟨h1,ps,a,b,env,Bp,k4,h2.2.2 _ k2,bu h te env k3⟩
 |.sp g t i off,d,k=>by cases d<;>simp only[RT]at k⊢;obtain⟨k1,k2,e,s,l,z,k3,k4,k5⟩:=k;obtain⟨h1,h2⟩:=h _ _ (λe=>e) k1;obtain⟨l',z',h3,h4⟩:=h2.2.1 e s l z k3;exact⟨h1,k2,e,s,l',z',h3,by omega,by omega⟩
 |.fn f a b,d,k=>by cases d<;>simp only[RT]at k⊢;exact⟨k.1,bu h a _ k.2.1,bu h b _ k.2.2⟩
theorem bu(h:jy ι S ι' S' λ_=>False):∀(l:List TV)(m:List DV),cK ι S l m->cK ι' S' l m
 |[],m,k=>by rw[aR k];exact bO
 |a::l,m,k=>by obtain⟨d,m',rfl,h1,h2⟩:=aj k;exact aT (Z1 h a d h1) (bu h l m' h2)
end
mutual
theorem aef{g:Nat}(h:jy ι S ι' S' λk=>k=g):∀(v:TV)(d:DV),RT ι S v d->RT ι' S' (tT g v) d
 |.unk,_,_=>by simp only[tT,RT]
 |.val _,d,k=>by cases d<;>simp only[RT,tT]at k⊢;exact k
 |.ax,d,k=>by cases d<;>simp only[RT,tT]at k⊢;exact k
 |.agg l,d,k=>by cases d<;>simp only[RT,tT]at k⊢;exact nB h l _ k
 |.tup l,d,k=>by cases d<;>simp only[RT,tT]at k⊢;exact nB h l _ k
 |.sl t l .no,d,k=>by cases d<;>simp only[RT,tT]at k⊢;exact⟨k.1,trivial⟩
 |.sl t l .full,d,k=>by cases d<;>simp only[RT,tT]at k⊢;exact k
 |.sl t l (.stop _),d,k=>by cases d<;>simp only[RT,tT]at k⊢;exact⟨k.1,trivial⟩
 |.sl t l (.Cf _),d,k=>by cases d<;>simp only[RT,tT]at k⊢;exact⟨k.1,trivial⟩
 |.sl t l (.je j),d,k=>by
  cases d<;>simp only[RT]at k;simp only[tT];split;.simp only[RT];exact⟨k.1,trivial⟩
  rename_i hj;simp only[RT];exact⟨k.1,Qs h (λg' e=>by rcases e with e|e<;>cases e;exact hj) k.2⟩
 |.ptr id off,d,k=>by
  cases d<;>simp only[RT]at k;simp only[tT];split;.simp only[RT]
  rename_i hj;simp only[RT];exact⟨(h _ _ hj k.1).1,k.2⟩
 |.fq t l i off,d,k=>by cases d<;>simp only[RT,tT]at k⊢;exact k
 |.mp id,d,k=>by
  cases d<;>simp only[RT]at k;simp only[tT];split;.simp only[RT]
  rename_i hj;simp only[RT];exact(h _ _ hj k).1
 |.so j t,d,k=>by
  cases d<;>simp only[RT]at k;simp only[tT];split;.simp only[RT]
  rename_i hj;simp only[RT];obtain⟨k1,k2,e,s,l,z,k3,k4⟩:=k;obtain⟨h1,h2⟩:=h _ _ hj k1;obtain⟨l',z',h3,h4⟩:=h2.2.1 e s l z k3;exact⟨h1,k2,e,s,l',z',h3,by omega⟩
 |.od k0 fn te,d,k=>by
  cases d<;>simp only[RT]at k;simp only[tT];split;.simp only[RT]
  rename_i hj;simp only[RT];obtain⟨k1,ps,a,b,env,Bp,k4,k2,k3⟩:=k;obtain⟨h1,h2⟩:=h _ _ hj k1;exact⟨h1,ps,a,b,env,Bp,k4,h2.2.2 _ k2,nB h te env k3⟩
 |.sp j t i off,d,k=>by
  cases d<;>simp only[RT]at k;simp only[tT];split;.simp only[RT]
  rename_i hj;simp only[RT];obtain⟨k1,k2,e,s,l,z,k3,k4,k5⟩:=k;obtain⟨h1,h2⟩:=h _ _ hj k1;obtain⟨l',z',h3,h4⟩:=h2.2.1 e s l z k3;exact⟨h1,k2,e,s,l',z',h3,by omega,by omega⟩
 |.fn f a b,d,k=>by cases d<;>simp only[RT,tT]at k⊢;exact⟨k.1,nB h a _ k.2.1,nB h b _ k.2.2⟩
theorem nB{g:Nat}(h:jy ι S ι' S' λk=>k=g):∀(l:List TV)(m:List DV),cK ι S l m->cK ι' S' (kB g l) m
 |[],m,k=>by rw[aR k];simp only[kB];exact bO
 |a::l,m,k=>by obtain⟨d,m',rfl,h1,h2⟩:=aj k;simp only[kB];exact aT (aef h a d h1) (nB h l m' h2)
end
def yz(tS:List TB)(nT:Nat):Prop:=tS[nT]? =some .none\/nT=tS.length
def yA(S:ai)(aF:Nat):Prop:=S[aF]? =some .none\/aF=S.length
theorem cV{b:TB}(h:yz tS nT)(j:Nat):(oG tS nT b)[j]? =if j=nT then some b else tS[j]? :=by
 unfold oG;rcases h with h|h
 .have hlt:=(aA.1 h).1;rw[if_pos hlt,aH];by_cases e:nT=j;.subst e;rw[if_pos rfl,if_pos hlt,if_pos rfl]
  rw[if_neg e,if_neg (Ne.symm e)]
 subst h;rw[if_neg (Nat.lt_irrefl _),qK];by_cases e:j=tS.length;.subst e;rw[if_neg (Nat.lt_irrefl _),if_pos rfl];simp
 rw[if_neg e];split;.rfl
 rw[fI (by simp;omega),fI (by omega)]
theorem bG{b:DB}(h:yA S aF)(j:Nat):(eU S aF b)[j]? =if j=aF then some b else S[j]? :=by
 unfold eU;rcases h with h|h
 .have hlt:=(aA.1 h).1;rw[if_pos hlt,aH];by_cases e:aF=j;.subst e;rw[if_pos rfl,if_pos hlt,if_pos rfl]
  rw[if_neg e,if_neg (Ne.symm e)]
 subst h;rw[if_neg (Nat.lt_irrefl _),qK];by_cases e:j=S.length;.subst e;rw[if_neg (Nat.lt_irrefl _),if_pos rfl];simp
 rw[if_neg e];split;.rfl
 rw[fI (by simp;omega),fI (by omega)]
def upd(ι:kY)(k k':Nat):kY:=λj=>if j=k then some k' else ι j
theorem bT.live (h:bT ι te tS env S){k k':Nat}(hk:ι k=some k'):∃b,S[k']? =some b/\b≠.none:=by
 obtain⟨b,h1,h2⟩:=h.ql k k' hk;cases b with
 |none=>exact(h2 rfl).elim
 |cells l=>obtain⟨k'',ds,h3,h4,-⟩:=h.cells k l h1;rw[hk]at h3;cases h3;exact⟨_,h4,λe=>by cases e⟩
 |own e s=>obtain⟨n,h3⟩:=h.own k e s h1 k' hk;exact⟨_,h3,λe=>by cases e⟩
 |map kt l=>exact⟨_,h.mp k _ h1 k' hk,λe=>by cases e⟩
 |rows t e l z=>obtain⟨-,-,ds,h3,-⟩:=h.mp k _ h1 k' hk;exact⟨_,h3,λe=>by cases e⟩
 |loop=>obtain⟨r,h3,-⟩:=h.mp k _ h1 k' hk;exact⟨_,h3,λe=>by cases e⟩
theorem bT.ep (h:bT ι te tS env S)(hn:yA S aF){k k':Nat}(hk:ι k=some k'):k'≠aF:=by
 rintro rfl;obtain⟨b,h1,h2⟩:=h.live hk;rcases hn with hn|hn;.rw[hn]at h1;cases h1;exact h2 rfl
 have:=(aA.1 h1).1;omega
theorem bT.new (h:bT ι te tS env S)(hn:yz tS nT):ι nT=none:=by
 cases hk:ι nT with
 |none=>rfl
 |some k'=>
  obtain⟨b,h1,h2⟩:=h.ql _ _ hk;rcases hn with hn|hn;.rw[hn]at h1;cases h1;exact(h2 rfl).elim
  have:=(aA.1 h1).1;omega
theorem rZ(h:bT ι te tS env S)(hT:yz tS nT)(hn:yA S aF)(b:DB):jy ι S (upd ι nT aF) (eU S aF b) λ_=>False:=by
 intro k k' _ hk;have h1:k≠nT:=by rintro rfl;rw[h.new hT]at hk;cases hk
 exact⟨by simp only[upd,h1,if_false];exact hk,dO (by rw[bG hn,if_neg (h.ep hn hk)])⟩
theorem qz(h:bT ι te tS env S)(hn:yA S aF)(hT:yz tS nT)(hw:Yk ι w):Yk (upd ι nT aF) (upd w aF nT):=by
 intro k k' hk;unfold upd at hk⊢;split at hk;.rename_i e;subst e;cases hk;simp
 rw[if_neg (h.ep hn hk)];exact hw k k' hk
theorem wV(h:bT ι te tS env S)(hT:yz tS nT)(hn:yA S aF){ts:List TV}{ds:List DV}(hc:cK ι S ts ds):bT (upd ι nT aF) te (oG tS nT (.cells ts)) env (eU S aF (.cells ds)):=by
 have K:=rZ h hT hn (.cells ds);refine⟨bu K _ _ h.env,λk l hk=>?_,λk e s hk t ht=>?_,λk k' hk=>?_,λi j k' hi hj=>?_,λk b hk t ht=>?_⟩
 .rw[cV hT]at hk;split at hk;.rename_i e;subst e;cases hk;exact⟨aF,ds,by simp[upd],by rw[bG hn,if_pos rfl],bu K _ _ hc⟩
  rename_i e;obtain⟨k',iC,h1,h2,h3⟩:=h.cells k l hk;exact⟨k',iC,by simp only[upd,e,if_false];exact h1,by rw[bG hn,if_neg (h.ep hn h1)];exact h2,bu K _ _ h3⟩
 .rw[cV hT]at hk;split at hk;.cases hk
  rename_i e';simp only[upd,e',if_false]at ht;obtain⟨n,h1⟩:=h.own k e s hk t ht;exact⟨n,by rw[bG hn,if_neg (h.ep hn ht)];exact h1⟩
 .rw[cV hT];split;.exact⟨_,rfl,λe=>by cases e⟩
  rename_i e;simp only[upd,e,if_false]at hk;exact h.ql k k' hk
 .unfold upd at hi hj;split at hi<;>split at hj;.omega
  .cases hi;exact(h.ep hn hj rfl).elim
  .cases hj;exact(h.ep hn hi rfl).elim
  exact h.inj i j k' hi hj
 rw[cV hT]at hk;split at hk;.cases hk;trivial
 rename_i e';simp only[upd,e',if_false]at ht;rw[bG hn,if_neg (h.ep hn ht)];exact h.mp k b hk t ht
theorem BU(h:bT ι te tS env S)(hT:yz tS nT)(hn:yA S aF)(e s n:Nat):bT (upd ι nT aF) te (oG tS nT (.own e s)) env (eU S aF (.tail e s (n*s))):=by
 refine⟨bu (rZ h hT hn _) _ _ h.env,λk0 l0 hk=>?_,λk0 e0 s0 hk t0 FX=>?_,λk0 k1 hk=>?_,λi j k1 hi hj=>?_,λk0 b0 hk t0 FX=>?_⟩
 .rw[cV hT]at hk;split at hk;.cases hk
  rename_i e5;obtain⟨k',iC,n1,n2,n3⟩:=h.cells _ _ hk;exact⟨k',iC,by simp only[upd,e5,if_false];exact n1,by rw[bG hn,if_neg (h.ep hn n1)];exact n2,bu (rZ h hT hn _) _ _ n3⟩
 .rw[cV hT]at hk;split at hk;.rename_i e5;cases hk;simp only[upd,e5,if_true,aB]at FX;subst FX;exact⟨_,by rw[bG hn,if_pos rfl]⟩
  rename_i e5;simp only[upd,e5,if_false]at FX;obtain⟨n,n1⟩:=h.own _ _ _ hk _ FX;exact⟨n,by rw[bG hn,if_neg (h.ep hn FX)];exact n1⟩
 .rw[cV hT];split;.exact⟨_,rfl,λe=>by cases e⟩
  rename_i e5;simp only[upd,e5,if_false]at hk;exact h.ql _ _ hk
 .unfold upd at hi hj;split at hi<;>split at hj;.omega
  .cases hi;exact(h.ep hn hj rfl).elim
  .cases hj;exact(h.ep hn hi rfl).elim
  exact h.inj i j k1 hi hj
 rw[cV hT]at hk;split at hk;.cases hk;trivial
 rename_i e5;simp only[upd,e5,if_false]at FX;rw[bG hn,if_neg (h.ep hn FX)];exact h.mp _ _ hk _ FX
def Lv(S:ai)(i:Nat):Prop:=∃b,S[i]? =some b/\b≠.none
structure Fr (B:List Nat) (ι:kY) (S:ai) (ι':kY) (S':ai):Prop where
 rest:∀k',Lv S k'->(∀k,ι k≠some k')->S'[k']? =S[k']?
 ours:∀k k',ι' k=some k'->(∃j,ι j=some k')\/¬Lv S k'
 base:∀k,k∈B->ι' k=ι k
def lq:Option (List TV)->TB
 |some l=>.cells l
 |none=>.loop
def oE(B:List Nat)(tS:List TB):Prop:=∀k,k∈B->∃l,tS[k]? =some (lq l)
theorem Fr.refl (B:List Nat)(ι:kY)(S:ai):Fr B ι S ι S:=⟨λ_ _ _=>rfl,λk _ h=>.inl ⟨k,h⟩,λ_ _=>rfl⟩
theorem Fr.trans {B:List Nat}{ι'':kY}{xk:ai}(h:Fr B ι S ι' S')(k:Fr B ι' S' ι'' xk):Fr B ι S ι'' xk where
 rest:=λk' hl hn=>by
  have h1:=h.rest k' hl hn;have iN:Lv S' k':=by obtain⟨b,h2,h3⟩:=hl;exact⟨b,h1.trans h2,h3⟩
  refine(k.rest k' iN λj hj=>?_).trans h1;rcases h.ours j k' hj with ⟨i,h2⟩|h2;.exact hn i h2
  exact h2 hl
 ours:=λj k' hj=>by
  rcases k.ours j k' hj with ⟨i,h1⟩|h1;.exact h.ours i k' h1
  by_cases hl:Lv S k'
  .by_cases hn:∃j,ι j=some k';.exact .inl hn
   refine(h1 ?_).elim;obtain⟨b,h2,h3⟩:=hl;exact⟨b,(h.rest k' ⟨b,h2,h3⟩ λi hi=>hn ⟨i,hi⟩).trans h2,h3⟩
  exact .inr hl
 base:=λj hj=>(k.base j hj).trans (h.base j hj)
theorem zZ(hn:yA S aF):¬Lv S aF:=by
 rintro⟨b,h1,h2⟩;rcases hn with hn|hn;.rw[hn]at h1;cases h1;exact h2 rfl
 have:=(aA.1 h1).1;omega
theorem sI{B:List Nat}{g:Nat}{b:DB}(hn:yA S aF)(hg:g∉B):Fr B ι S (upd ι g aF) (eU S aF b) where
 rest:=λk' hl _=>by rw[bG hn,if_neg];rintro rfl;exact zZ hn hl
 ours:=λk k' hk=>by
  unfold upd at hk;split at hk;.cases hk;exact .inr (zZ hn)
  exact .inl ⟨k,hk⟩
 base:=λk hk=>by unfold upd;rw[if_neg (λe:k=g=>hg (e▸hk))]
theorem AD{B:List Nat}{k0 id:Nat}{b:DB}(hk:ι k0=some id):Fr B ι S ι (S.set id b) where
 rest:=λk' _ hn=>by rw[aH,if_neg];rintro rfl;exact hn k0 hk
 ours:=λk _ h=>.inl ⟨k,h⟩
 base:=λ_ _=>rfl
theorem nE{B:List Nat}(hB:oE B tS)(hT:yz tS nT):nT∉B:=by
 intro hlt;obtain⟨l,h1⟩:=hB _ hlt;rcases hT with hT|hT;.rw[hT]at h1;cases l<;>cases h1
 have:=(aA.1 h1).1;omega
theorem kO{B:List Nat}{b:TB}(hB:oE B tS)(hT:yz tS nT):oE B (oG tS nT b):=by intro k hk;have:=nE hB hT;rw[cV hT,if_neg (λe:k=nT=>this (e▸hk))];exact hB k hk
theorem abe{B:List Nat}{g e s:Nat}(hB:oE B tS)(h:tS[g]? =some (.own e s)):g∉B:=by intro hlt;obtain⟨l,h1⟩:=hB _ hlt;rw[h]at h1;cases l<;>cases h1
def Nn(i:Nat)(S S':ai):Prop:=S.length<=S'.length/\∀j,j≠i->S[j]? =some .none->S'[j]? =some .none
theorem gF(i:Nat)(S:ai):Nn i S S:=⟨ak _,λ_ _ h=>h⟩
theorem oN{b:DB}(hn:yA S aF):Nn aF S (eU S aF b):=by refine⟨?_,λj hj h=>by rw[bG hn,if_neg hj];exact h⟩;unfold eU;split<;>simp
theorem Ay{i id:Nat}{b b':DB}(h:S[id]? =some b)(hb:b≠.none):Nn i S (S.set id b'):=by
 refine⟨by simp,λj _ hj=>?_⟩;rw[aH,if_neg];.exact hj
 rintro rfl;rw[h]at hj;cases hj;exact hb rfl
end
end Go.Tv
namespace Go.Tv
open Go Go.Di
variable {P:Program} {ty:fR} {tt:TypeId->Option TT} {ι ι' w:kY} {S S':ai} {te:List TV} {env:List DV} {tS:List TB} {aK:bR} {call:bt} {yf:ej} {o:Oper} {aF nT:Nat} {B:List Nat} {r:TR}
theorem Vf:∀{l:List TV}{m:List DV},cK ι S l m->l.all acI=true->m.all DV.one=true
 |[],m,h,_=>by rw[aR h];rfl
 |a::l,m,h,k=>by obtain⟨d,m',rfl,h1,h2⟩:=aj h;simp only[cG,aC]at k⊢;refine⟨?_,Vf h2 k.2⟩;cases a<;>cases d<;>simp only[RT]at h1<;>first|rfl|(cases k.1;done)|(subst h1;exact k.1)
def Iw(P:Program)(ty:fR)(aK:bR)(call:bt)(yf:ej)(B:List Nat)(ι w:kY)(env:List DV)(S:ai)(o:Oper)(aF:Nat)(r:TR):Prop:=
 ∃d S' ι' w',ah P ty aK call yf (jr env) o S aF=some (d,S')/\bT ι' r.te r.tS env S'/\RT ι' S' r.v d/\Yk ι' w'/\(∀j,j≠aF->w' j=w j)/\(∀j∈ig (jr env) o aF,(∃k∈r.FI,w' j=some k)/\(j=aF\/∃i,ι i=some j))/\Fr B ι S ι' S'/\oE B r.tS/\Nn aF S S'
theorem V4(h:bT ι te tS env S)(hB:oE B tS)(hw:Yk ι w){t:TypeId}{a x:Operand}(ho:o.op=.store t a x)(hr:stepT P ty tt te tS o nT=some r):Iw P ty aK call yf B ι w env S o aF r:=by
 simp only[stepT,ho]at hr;split at hr
 .rename_i td id off v h1 h2 h3;split at hr
  .rename_i l h4;split at hr
   .rename_i hc;simp only[aC,dX]at hc;obtain⟨⟨c1,c2⟩,c3⟩:=hc;simp only[af]at hr h3;obtain⟨l',h5,rfl⟩:=hr;obtain⟨u,h6,h7⟩:=h3;obtain⟨da,k1,k2⟩:=bE h.env h2;cases da<;>simp only[RT]at k2;rename_i iT sD;obtain⟨k3,rfl⟩:=k2;obtain⟨d,k4,k5⟩:=bE h.env h6;have k6:=cZ (tt:=tt) (t:=t) k5;rw[h7]at k6;have k7:=uQ c1 k6;obtain⟨aiL,ds,m1,m2,m3⟩:=h.cells id l h4;rw[k3]at m1;cases m1;obtain⟨iC,m4,m5⟩:=IU m3 k7 h5;have K:jy ι S ι (S.set iT (.cells iC)) λ_=>False:=λk k' _ hk=>⟨hk,by
     rw[aH];split;.rename_i e1;subst e1;exact vH (by rw[m2];simp) (by rw[m2];simp) (by rw[m2];simp)
     exact dO rfl⟩
    have hlt:=(aA.1 m2).1;refine⟨bF,S.set iT (.cells iC),ι,w,?_,?_,by simp only[RT],hw,λ_ _=>rfl,?_,AD k3,?_,Ay m2 (λe=>by cases e)⟩
    .have e1:d.cells.length=td.size:=by rw[gE k7];exact c2
     simp only[ah,ho,k1,k4,pX,h1,m2,e1,Vf k7 c3,decide_true,fT,if_true,m4,ay]
    .refine⟨bu K _ _ h.env,λk l0 hk=>?_,λk e s hk t0 ht=>?_,λk k' hk=>?_,h.inj,λk b0 hk t0 ht=>?_⟩
     .simp only[aH]at hk;split at hk
      .rename_i e1;subst e1;split at hk;.cases hk;exact⟨iT,iC,k3,by rw[aH,if_pos rfl,if_pos hlt],bu K _ _ m5⟩
       cases hk
      rename_i e1;obtain⟨k',Mw,n1,n2,n3⟩:=h.cells k l0 hk;refine⟨k',Mw,n1,?_,bu K _ _ n3⟩;rw[aH,if_neg ?_];.exact n2
      rintro rfl;exact e1 (h.inj _ _ _ k3 n1)
     .simp only[aH]at hk;split at hk;.split at hk<;>cases hk
      obtain⟨n,n1⟩:=h.own k e s hk t0 ht;exact⟨n,(K k t0 (λe=>e) ht).2.1 _ _ _ n1⟩
     .simp only[aH];split;.rename_i e1;subst e1;have:=(aA.1 h4).1;exact⟨_,if_pos this,λe=>by cases e⟩
      exact h.ql k k' hk
     simp only[aH]at hk;split at hk;.split at hk<;>cases hk;trivial
     rename_i e1;rw[aH,if_neg];.exact h.mp k b0 hk t0 ht
     rintro rfl;exact e1 (h.inj _ _ _ k3 ht)
    .intro j hj;simp only[ig,ho,k1,bI]at hj;subst hj;exact⟨⟨id,by simp,hw _ _ k3⟩,.inr ⟨_,k3⟩⟩
    intro k hk;simp only[aH];split;.rename_i e1;subst e1;exact⟨some _,if_pos (aA.1 h4).1⟩
    exact hB k hk
   cases hr
  cases hr
 cases hr
theorem Rq{k k':TT}(h:k'=k){m:List k'.den}{rows:List DV}(hr:fC (CR k') k'.agg m rows):fC (CR k) k.agg (h▸m) rows:=by subst h;exact hr
theorem Lt{k k':TT}(h:k'=k)(m:List k'.den):(h▸m:List k.den).length=m.length:=by subst h;rfl
theorem B2{rows:List DV}(h:rows.isEmpty=true):rows=[]:=y7.1 h
theorem Sy(h:bT ι te tS env S)(hB:oE B tS)(hw:Yk ι w)(hT:yz tS nT)(hn:yA S aF){args:Array Operand}{argTypes:Array TypeId}(ho:o.op=.call {callee:=.builtin .append,args,argTypes})(hr:stepT P ty tt te tS o nT=some r)(hc:r.c):Iw P ty aK call yf B ι w env S o aF r:=by
 simp only[stepT,ho]at hr;split at hr
 .rename_i x y t u ha ht;split at hr
  .rename_i QA;obtain⟨QA,hh⟩:=QA;subst QA;split at hr
   .rename_i e s lR ag sz z0 k l ap k' m _ h1 h2 h3;split at hr
    .rename_i k0 sz' z h4;split at hr
     .rename_i FY;split at hr
      .rename_i pS;simp only[aC,dX,cq]at pS;obtain⟨⟨c1,c2⟩,c3⟩:=pS;simp only[af]at h2 h3;obtain⟨ux,e1,e2⟩:=h2;obtain⟨uy,e3,e4⟩:=h3;obtain⟨da,k1,k2⟩:=bE h.env e1;have k3:=cZ (tt:=tt) (t:=t) k2;rw[e2]at k3;obtain⟨db,k4,k5⟩:=bE h.env e3;have k6:=cZ (tt:=tt) (t:=t) k5;rw[e4]at k6;cases da<;>simp only[RT]at k3;rename_i rows tok f;cases db<;>simp only[RT]at k6;rename_i news ahp f';obtain⟨k3,kap⟩:=k3;obtain⟨k6,-⟩:=k6;have hla:=kN k3;have hlb:=kN k6;have k6':=Rq FY k6;have ac8:=BR k3 k6';have Tn:(rows.all λr=>decide (r.cells.length=s))=true:=aX.2 λr hr=>eF ((jL k3 r hr).trans c3);have Mv:(news.all λr=>decide (r.cells.length=s))=true:=aX.2 λr hr=>eF ((jL k6' r hr).trans c3);have hx:(args[0]?).bind (jr env)=some (.sl rows tok f):=by
        have:args[0]? =some x:=by rw[<-kV,ha];rfl
        rw[this];exact k1
       have J7:ig (jr env) o aF=match tok with|some t=>[t,aF]|none=>[aF]:=by simp only[ig,ho,hx];cases tok<;>rfl
       have Zc:l.length+m.length<=1000000000->(decide (0<s)&&decide ((rows.length+news.length)*lR<=fQ)&&decide (rows.length+news.length<=140737488355328-4096)&&news.all (λr=>decide (r.cells.length=s)))=true:=by
        intro hle;simp only[aC,cq];rw[hla,hlb];refine⟨⟨⟨c1,?_⟩,by omega⟩,Mv⟩
        calc (l.length+m.length)*lR<=1000000000*100000:=Nat.mul_le_mul hle c2
         _<=fQ:=by decide
       have hz:∀d S',jW ty S aF t (.sl rows tok f) (.sl news ahp f')=some (d,S')->ah P ty aK call yf (jr env) o S aF=some (d,S'):=by intro d S' hd;simp only[ah,ho,ha,ht,if_true,k1,k4,hd]
       split at hr;.cases hr
       .cases hr
       .cases hr
       .obtain⟨c0,Mp,hc0,Vu⟩:∃c,r=⟨.sl k (l++(FY▸m)) (.je nT),te,oG tS nT (.own e s),[nT],c⟩/\(l.length+m.length<=1000000000)/\(l.length=0\/m.length≠0):=by
         split at hr;.cases hr;exact⟨_,rfl,hc.1,hc.2⟩
         split at hr;.rename_i hf;cases hr;exact⟨_,rfl,hc,XD hf⟩
         cases hr
        subst Mp;obtain⟨rfl,yE⟩:=kap;have Zf:=Zc hc0;by_cases Ov:news.isEmpty=true
        .have hm:m=[]:=eS (by rw[<-hlb,B2 Ov];rfl);subst hm;refine⟨.sl rows none f,S,ι,upd w aF nT,hz _ _ (by simp only[jW,h1,Ov,if_true]),?_,?_,?_,?_,?_,Fr.refl _ _ _,kO hB hT,gF _ _⟩
         .refine⟨h.env,λk0 l0 hk=>?_,λk0 e0 s0 hk t0 FX=>?_,λk0 k1 hk=>?_,h.inj,λk0 b0 hk t0 FX=>?_⟩
          .rw[cV hT]at hk;split at hk;.cases hk
           exact h.cells _ _ hk
          .rw[cV hT]at hk;split at hk;.rename_i e5;subst e5;rw[h.new hT]at FX;cases FX
           exact h.own _ _ _ hk _ FX
          .rw[cV hT];split;.exact⟨_,rfl,λe=>by cases e⟩
           exact h.ql _ _ hk
          rw[cV hT]at hk;split at hk;.cases hk;trivial
          exact h.mp _ _ hk _ FX
         .simp only[RT];have hl0:l=[]:=by
           cases l with
           |nil=>rfl
           |cons a l=>simp at Vu
          refine⟨?_,.inl ⟨rfl,yE,by rw[hla,hl0];rfl⟩⟩;have e7:(FY▸([]:List k'.den):List k.den)=[]:=eS (by rw[Lt];rfl);rw[e7,dZ];exact k3
         .intro a b qv;unfold upd;rw[if_neg (h.ep hn qv)];exact hw _ _ qv
         .intro j hj;unfold upd;rw[if_neg hj]
         intro j hj;rw[J7,bI]at hj;exact⟨⟨nT,by simp,by simp[upd,hj]⟩,.inl hj⟩
        skip
        refine⟨.sl (rows++news) (some aF) ⟨false,none⟩,eU S aF (.tail e s ((rows.length+news.length)*s)),upd ι nT aF,upd w aF nT,hz _ _ ?_,?_,?_,qz h hn hT hw,?_,?_,sI hn (nE hB hT),kO hB hT,oN hn⟩;.simp only[jW,h1,Ov,aI,if_false,h4,Zf,if_true,yE,Tn,fT]
        .exact BU h hT hn e s _
        .simp only[RT];refine⟨ac8,.inr ⟨aF,e,s,by simp[upd],rfl,?_⟩⟩;rw[bG hn,if_pos rfl,bU]
        .intro j hj;unfold upd;rw[if_neg hj]
        intro j hj;rw[J7,bI]at hj;exact⟨⟨nT,by simp,by simp[upd,hj]⟩,.inl hj⟩
       rename_i g;split at hr
       .rename_i e' s' fN;split at hr
        .rename_i hes;simp only[aC,dX]at hes;obtain⟨rfl,rfl⟩:=hes;simp only[aB]at hr;subst hr;have Zf:=Zc hc;have htS:∀j,(tS.map (qp g))[j]? =(tS[j]?).map (qp g):=λj=>cM ..;have hgn:g≠nT:=by
          rintro rfl;rcases hT with hT|hT;.rw[hT]at fN;cases fN
          have:=(aA.1 fN).1;omega
         have hBm:oE B (tS.map (qp g)):=λk hk=>by obtain⟨l0,h0⟩:=hB k hk;exact⟨l0.map (kB g),by rw[htS,h0];cases l0<;>rfl⟩
         have share:∀(ι':kY)(S':ai),jy ι S ι' S' (λk=>k=g)->(∀k k',k≠g->(ι' k=some k'↔ι k=some k'))->(∀k k' b,k≠g->ι k=some k'->(∀e s n,b≠.tail e s n)->S[k']? =some b->S'[k']? =some b)->
           (∀t,ι' g=some t->∃n,S'[t]? =some (.tail e' s' n))->(∀k k',k≠g->ι k=some k'->ι' g≠some k')->bT ι' (kB g te) (tS.map (qp g)) env S':=by
          intro ι' S' K hιe jh hg afu;refine⟨nB K _ _ h.env,λk0 l0 hk=>?_,λk0 e0 s0 hk t0 FX=>?_,λk0 k1 hk=>?_,λi j k1 hi hj=>?_,λk0 b0 hk t0 FX=>?_⟩
          .rw[htS]at hk;simp only[af]at hk;obtain⟨b,hb,Fh⟩:=hk;have hne:k0≠g:=by rintro rfl;rw[fN]at hb;cases hb;cases Fh
           cases b<;>simp only[qp]at Fh<;>first|(cases Fh;done)|skip
           rename_i lb;cases Fh;obtain⟨k',iC,n1,n2,n3⟩:=h.cells _ _ hb;exact⟨k',iC,(hιe _ _ hne).2 n1,jh _ _ _ hne n1 (λ_ _ _ e=>by cases e) n2,nB K _ _ n3⟩
          .rw[htS]at hk;simp only[af]at hk;obtain⟨b,hb,Fh⟩:=hk;cases b<;>simp only[qp]at Fh<;>first|(cases Fh;done)|skip
           cases Fh;by_cases hg0:k0=g;.subst hg0;rw[fN]at hb;cases hb;exact hg _ FX
           have ht1:=(hιe _ _ hg0).1 FX;obtain⟨n,n1⟩:=h.own _ _ _ hb _ ht1;exact⟨n,(K k0 t0 hg0 ht1).2.1 _ _ _ n1⟩
          .rw[htS];by_cases hg0:k0=g;.subst hg0;exact⟨_,by rw[fN];rfl,λe=>by cases e⟩
           obtain⟨b,n1,n2⟩:=h.ql _ _ ((hιe _ _ hg0).1 hk);exact⟨_,by rw[n1];rfl,λe=>by cases b<;>first|(exact n2 rfl)|cases e⟩
          .by_cases hig:i=g<;>by_cases hjg:j=g;.rw[hig,hjg]
           .subst hig;exact(afu _ _ hjg ((hιe _ _ hjg).1 hj) hi).elim
           .subst hjg;exact(afu _ _ hig ((hιe _ _ hig).1 hi) hj).elim
           exact h.inj i j k1 ((hιe _ _ hig).1 hi) ((hιe _ _ hjg).1 hj)
          rw[htS]at hk;simp only[af]at hk;obtain⟨b,hb,Fh⟩:=hk;by_cases hne:k0=g;.subst hne;rw[fN]at hb;cases hb;subst Fh;trivial
          have ht1:=(hιe _ _ hne).1 FX;have h1:=h.mp _ _ hb _ ht1;subst Fh;cases b with
          |map kt l=>exact jh _ _ _ hne ht1 (λ_ _ _ e=>by cases e) h1
          |rows t e l z=>obtain⟨q0,q1,ds,q2,q3⟩:=h1;exact⟨q0,q1,ds,jh _ _ _ hne ht1 (λ_ _ _ e=>by cases e) q2,q3⟩
          |loop=>obtain⟨r,q2,q3⟩:=h1;exact⟨r,jh _ _ _ hne ht1 (λ_ _ _ e=>by cases e) q2,q3⟩
          |_=>trivial
         by_cases Ov:news.isEmpty=true
         .have hm:m=[]:=eS (by rw[<-hlb,B2 Ov];rfl);subst hm;have e7:(FY▸([]:List k'.den):List k.den)=[]:=eS (by rw[Lt];rfl);refine⟨.sl rows tok f,S,ι,upd w aF nT,hz _ _ (by simp only[jW,h1,Ov,if_true]),share ι S (λk k' _ hk=>⟨hk,dO rfl⟩) (λ_ _ _=>Iff.rfl) (λ_ _ _ _ _ _ h=>h) (λt ht=>h.own g _ _ fN t ht) (λk k' hk h1 h2=>hk (h.inj _ _ _ h1 h2)),?_,?_,?_,?_,Fr.refl _ _ _,hBm,gF _ _⟩;.simp only[RT];rw[e7,dZ];exact⟨k3,kap⟩
          .intro a b qv;unfold upd;rw[if_neg (h.ep hn qv)];exact hw _ _ qv
          .intro j hj;unfold upd;rw[if_neg hj]
          intro j hj;rw[J7]at hj;cases tok with
          |none=>simp only[bI]at hj;exact⟨⟨nT,by simp,by simp[upd,hj]⟩,.inl hj⟩
          |some tk=>
           simp only[bw,eB,or_false]at hj;rcases hj with rfl|rfl
           .rcases kap with ⟨h0,-⟩|⟨t0,e0,s0,a1,a2,a3⟩;.cases h0
            cases a2;exact⟨⟨g,by simp,by simp only[upd,h.ep hn a1,if_false];exact hw _ _ a1⟩,.inr ⟨_,a1⟩⟩
           exact⟨⟨nT,by simp,by simp[upd]⟩,.inl rfl⟩
         rcases kap with ⟨rfl,yE,ai2⟩|⟨t0,e0,s0,a1,rfl,a3⟩
         .have JB:jy ι S (upd ι g aF) (eU S aF (.tail e' s' ((rows.length+news.length)*s'))) (λk=>k=g):=λk k' hk h2=>⟨by simp only[upd,hk,if_false];exact h2,dO (by rw[bG hn,if_neg (h.ep hn h2)])⟩;refine⟨.sl (rows++news) (some aF) ⟨false,none⟩,eU S aF (.tail e' s' ((rows.length+news.length)*s')),upd ι g aF,λj=>if j=aF then some g else w j,hz _ _ ?_,share _ _ JB (λk k' hk=>by simp only[upd,hk,if_false]) (λk k' ds hk h2 _ h3=>by rw[bG hn,if_neg (h.ep hn h2)];exact h3) (λt ht=>?_) (λk k' hk h2 h3=>?_),?_,?_,?_,?_,sI hn (abe hB fN),hBm,oN hn⟩;.simp only[jW,h1,Ov,aI,if_false,h4,Zf,if_true,yE,Tn,fT]
          .simp only[upd,if_true,aB]at ht;subst ht;exact⟨_,by rw[bG hn,if_pos rfl]⟩
          .simp only[upd,if_true,aB]at h3;exact h.ep hn h2 h3.symm
          .simp only[RT];refine⟨ac8,.inr ⟨aF,e',s',by simp[upd],rfl,?_⟩⟩;rw[bG hn,if_pos rfl,bU]
          .intro a b qv;unfold upd at qv;split at qv;.rename_i e9;subst e9;cases qv;simp
           show(if b=aF then some g else w b)=some a;rw[if_neg (h.ep hn qv)];exact hw _ _ qv
          .intro j hj;show(if j=aF then some g else w j)=w j;rw[if_neg hj]
          intro j hj;rw[J7,bI]at hj;exact⟨⟨g,by simp,by simp[hj]⟩,.inl hj⟩
         obtain⟨n,a4⟩:=h.own g _ _ fN t0 a1;rw[a3]at a4;cases a4;have hne:t0≠aF:=h.ep hn a1;have hlt:=(aA.1 a3).1;have bg:∀j,j≠t0->(S.set t0 (.tail e' s' ((rows.length+news.length)*s')))[j]? =S[j]? :=λj hj=>by rw[aH,if_neg (Ne.symm hj)]
         have JB:jy ι S ι (S.set t0 (.tail e' s' ((rows.length+news.length)*s'))) (λk=>k=g):=λk k' hk h2=>⟨h2,dO (by rw[bg k' (λe9=>hk (h.inj _ _ _ h2 (by rw[e9];exact a1)))])⟩;refine⟨.sl (rows++news) (some t0) ⟨false,none⟩,S.set t0 (.tail e' s' ((rows.length+news.length)*s')),ι,λj=>if j=aF then some nT else w j,hz _ _ ?_,share _ _ JB (λ_ _ _=>Iff.rfl) (λk k' ds hk h2 _ h3=>by rw[bg k' (λe9=>hk (h.inj _ _ _ h2 (by rw[e9];exact a1)))];exact h3) (λt ht=>?_) (λk k' hk h2 h3=>hk (h.inj _ _ _ h2 h3)),?_,?_,?_,?_,AD a1,hBm,Ay a3 (λe=>by cases e)⟩;.simp only[jW,h1,Ov,aI,if_false,h4,Zf,if_true,a3,decide_true,fT]
         .rw[a1]at ht;cases ht;exact⟨_,by rw[aH,if_pos rfl,if_pos hlt]⟩
         .simp only[RT];refine⟨ac8,.inr ⟨t0,e',s',a1,rfl,?_⟩⟩;rw[aH,if_pos rfl,if_pos hlt,bU]
         .intro a b qv;show(if b=aF then some nT else w b)=some a;rw[if_neg (h.ep hn qv)];exact hw _ _ qv
         .intro j hj;show(if j=aF then some nT else w j)=w j;rw[if_neg hj]
         intro j hj;rw[J7]at hj;simp only[bw,eB,or_false]at hj;rcases hj with rfl|rfl;.exact⟨⟨g,by simp,by simp only[hne,if_false];exact hw _ _ a1⟩,.inr ⟨_,a1⟩⟩
         exact⟨⟨nT,by simp,by simp⟩,.inl rfl⟩
        cases hr
       cases hr
      cases hr
     cases hr
    cases hr
   cases hr
  cases hr
 cases hr
theorem V6(h:bT ι te tS env S)(hB:oE B tS)(hw:Yk ι w)(hT:yz tS nT)(hn:yA S aF)(hr:stepT P ty tt te tS o nT=some r)(hc:r.c):Iw P ty aK call yf B ι w env S o aF r:=by
 have pure:(bQ P ty tt te tS o).map (λr=>(⟨r.1,te,tS,lu te o,r.2⟩:TR))=some r->(∀j∈ig (jr env) o aF,(∃k∈lu te o,w j=some k)/\(j=aF\/∃i,ι i=some j))->Iw P ty aK call yf B ι w env S o aF r:=by intro hp hf;simp only[af]at hp;obtain⟨⟨v,c⟩,h1,rfl⟩:=hp;obtain⟨d,h2,h3⟩:=KU (aK:=aK) (call:=call) (yf:=yf) (aF:=aF) h.env h.cells h1 hc;exact⟨d,S,ι,w,h2,h,h3,hw,λ_ _=>rfl,hf,Fr.refl _ _ _,hB,gF _ _⟩
 have quiet:ig (jr env) o aF=[]->(∀j∈ig (jr env) o aF,(∃k∈lu te o,w j=some k)/\(j=aF\/∃i,ι i=some j)):=λe j hj=>by rw[e]at hj;cases hj
 cases ho:o.op with
 |alloc e=>
  simp only[stepT,ho]at hr;split at hr;.rename_i k sz z h1;cases hr;refine⟨.ptr aF 0,eU S aF (.cells z),upd ι nT aF,upd w aF nT,by simp only[ah,ho,h1],wV h hT hn (vA z),by simp[RT,upd],qz h hn hT hw,λj hj=>by simp only[upd,hj,if_false],λj hj=>?_,sI hn (nE hB hT),kO hB hT,oN hn⟩;simp only[ig,ho,bI]at hj;exact⟨⟨nT,by simp,by simp[upd,hj]⟩,.inl hj⟩
  cases hr
 |box t x=>
  simp only[stepT,ho]at hr;split at hr
  .rename_i v h1;split at hr;.rename_i hk;cases hr;obtain⟨d,k1,k2⟩:=bE h.env h1;refine⟨.ptr aF 0,eU S aF (.cells d.cells),upd ι nT aF,upd w aF nT,by simp only[ah,ho,k1],wV h hT hn (uQ hk k2),by simp[RT,upd],qz h hn hT hw,λj hj=>by simp only[upd,hj,if_false],λj hj=>?_,sI hn (nE hB hT),kO hB hT,oN hn⟩;simp only[ig,ho,bI]at hj;exact⟨⟨nT,by simp,by simp[upd,hj]⟩,.inl hj⟩
   cases hr
  cases hr
 |store t a x=>exact V4 h hB hw ho hr
 |load t a=>
  simp only[stepT,ho]at hr;refine pure hr λj hj=>?_;simp only[ig,ho]at hj;split at hj
  .rename_i iT sD h1;simp only[bI]at hj;subst hj;simp only[af,bQ,ho]at hr;obtain⟨q,h2,-⟩:=hr;split at h2;.rename_i td id off h3 h4;obtain⟨d,k1,k2⟩:=bE h.env h4;rw[h1]at k1;cases k1;simp only[RT]at k2;exact⟨⟨id,by simp[lu,ho,h4],hw _ _ k2.1⟩,.inr ⟨_,k2.1⟩⟩
   .rename_i td e l i off h3 h4;obtain⟨d,k1,k2⟩:=bE h.env h4;rw[h1]at k1;cases k1;simp only[RT]at k2
   cases h2
  .rename_i iT n' sD h1;simp only[af,bQ,ho]at hr;obtain⟨q,h2,-⟩:=hr;split at h2;.rename_i td id off h3 h4;obtain⟨d,k1,k2⟩:=bE h.env h4;rw[h1]at k1;cases k1;simp only[RT]at k2
   .rename_i td e l i off h3 h4;obtain⟨d,k1,k2⟩:=bE h.env h4;rw[h1]at k1;cases k1;simp only[RT]at k2
   cases h2
  cases hj
 |call cl=>
  obtain⟨callee,args,argTypes⟩:=cl;cases callee with
  |builtin b=>
   cases b with
   |append=>exact Sy h hB hw hT hn ho hr hc
   |_=>simp only[stepT,ho]at hr;exact pure hr (quiet (by simp only[ig,ho]))
  |_=>simp only[stepT,ho]at hr;exact pure hr (quiet (by simp only[ig,ho]))
 |_=>simp only[stepT,ho]at hr;exact pure hr (quiet (by simp only[ig,ho]))
end Go.Tv
namespace Go.Tv
open Go Go.Di
def QH:TV:=.val (.tuple #[])
def j8(te:List TV)(dst:Option Tmp)(v:TV):List TV:=
 match dst with
 |some d=>te.set d v
 |none=>te
def ez(ops:Array Oper)(te:List TV)(o:Oper):Option Bool:=
 match o.guard with
 |none=>some true
 |some (j,want)=>match(ops[j]?).bind (·.dst)with
  |some d=>match te[d]? with
   |some (.val (.bool b))=>some (match want with|true=>b|false=>!b)
   |some .unk=>none
   |some (.val _)=>some false
   |_=>none
  |none=>some false
def nP(o:Oper):Bool:=
 match o.op with
 |.alloc _|.box .. |.store .. =>true
 |.call {callee:=.builtin .append,.. }=>true
 |_=>false
def aeB(o:Oper):Bool:=
 match o.op with
 |.call {callee:=.value _,.. }=>true
 |_=>false
def Ak(tS:List TB)(nT:Nat):Bool:=
 match tS[nT]? with
 |some .none=>true
 |none=>nT==tS.length
 |_=>false
section
variable (P:Program) (ty:fR) (tt:TypeId->Option TT)
end
section
variable {P:Program} {ty:fR} {tt:TypeId->Option TT} {ι ι' w:kY} {S S':ai} {te:List TV} {env:List DV} {tS:List TB} {aK:bR} {call:bt} {yf:ej} {o:Oper} {aF nT:Nat} {B:List Nat} {r:TR} {ops:Array Oper}
theorem aeh{v:TV}{d:DV}(h:cK ι S te env)(hv:RT ι S v d)(dst:Option Tmp):cK ι S (j8 te dst v) (ku env dst d):=by
 cases dst with
 |none=>exact h
 |some t=>exact IK t h hv
theorem MU:RT ι S QH bF:=by simp only[QH,bF,RT]
theorem iJ(h:cK ι S te env){b:Bool}(hw:ez ops te o=some b):cD ops env o=b:=by
 unfold ez at hw;unfold cD;split at hw;.rename_i e;cases hw;rw[e]
 rename_i j want e;rw[e];dsimp only;split at hw
 .rename_i d e1;rw[e1];dsimp only;split at hw;.rename_i b' e2;cases hw;obtain⟨d',k1,k2⟩:=vB h e2;cases d'<;>simp only[RT]at k2;subst k2;rw[k1];cases b'<;>cases want<;>rfl
  .cases hw
  .rename_i v hv e2;cases hw;obtain⟨d',k1,k2⟩:=vB h e2;cases d'<;>simp only[RT]at k2;rw[k2]at k1;rw[k1];cases v<;>first|rfl|exact(hv _ rfl).elim
  cases hw
 rename_i e1;cases hw;rw[e1]
theorem aap(h:Ak tS nT=true):yz tS nT:=by
 unfold Ak at h;split at h;.rename_i e;exact .inl e
 .exact .inr (by simpa using h)
 cases h
def Kn(w:kY)(f ft:de):Prop:=(f.wr=true->ft.wr=true)/\∀l,ft.ids=some l->∃m,f.ids=some m/\∀j∈m,∃k∈l,w j=some k
def Does(P:Program)(ty:fR)(aK:bR)(call:bt)(yf:ej)(B:List Nat)(o:Oper)(nT:Nat)(te:List TV)(tS:List TB)(dr:Bool)(Q:TV->List TV->List TB->de->Prop):Prop:=
 ∀ι w env S aF,bT ι te tS env S->oE B tS->Yk ι w->yz tS nT->yA S aF->(dr=true->S[aF]? =some .none)->
  ∃d S' ι' w' v bX bN f ft,(dr=false->ah P ty aK call yf (jr env) o S aF=some (d,S'))/\(dr=true->aM P ty aK call yf (jr env) o S aF=some (d,S',f))/\Kn w' f ft/\(∀l m,ft.ids=some l->f.ids=some m->∀j∈m,j=aF\/∃i,ι i=some j)/\
   bT ι' bX bN env S'/\RT ι' S' v d/\Yk ι' w'/\(dr=true->∀j,j≠aF->w' j=w j)/\Fr B ι S ι' S'/\oE B bN/\Nn aF S S'/\Q v bX bN ft
theorem lM(h:stepT P ty tt te tS o nT=some r)(hc:r.c)(dr:Bool):Does P ty aK call yf B o nT te tS dr λv bX bN ft=>v=r.v/\bX=r.te/\bN=r.tS/\ft=⟨some r.FI,nP o⟩:=by
 intro ι w env S aF hR hB hw hT hn hS;obtain⟨d,S',ι',w',h1,h2,h3,h4,h5,h6,h7,h8,h9⟩:=V6 (aK:=aK) (call:=call) (yf:=yf) hR hB hw hT hn h hc;refine⟨d,S',ι',w',r.v,r.te,r.tS,⟨some (ig (jr env) o aF),nP o⟩,⟨some r.FI,nP o⟩,λ_=>h1,λhd=>?_,⟨id,λl hl=>⟨_,rfl,λj hj=>by cases hl;exact(h6 j hj).1⟩⟩,λl m hl hm j hj=>by cases hm;exact(h6 j hj).2,h2,h3,h4,λ_=>h5,h7,h8,h9,rfl,rfl,rfl,rfl⟩;have dm:=hS hd;cases ho:o.op with
 |alloc e=>simp only[aM,ho,dm,h1,ay,ig,nP]
 |box t x=>simp only[aM,ho,dm,h1,ay,ig,nP]
 |store t a x=>
  have:∃id off,jr env a=some (.ptr id off):=by
   simp only[ah,ho]at h1;split at h1
   .rename_i a' v' e1 e2;simp only[af]at h1;obtain⟨q,h1,-⟩:=h1;unfold pX at h1;split at h1;.exact⟨_,_,e1⟩
    .simp only[stepT,ho]at h;split at h;.rename_i t1 t2 t3;obtain⟨d9,t4,t5⟩:=bE hR.env t2;rw[e1]at t4;cases t4;simp only[RT]at t5
     cases h
    cases h1
   cases h1
  obtain⟨id,off,e⟩:=this;simp only[aM,ho,e,h1,ay,ig,nP]
 |load t a=>
  cases e:jr env a with
  |none=>simp only[ah,ho,e]at h1;cases h1
  |some da=>cases da<;>simp only[aM,ho,e,h1,ay,ig,nP]
 |makeMap t x=>simp only[stepT,bQ,ho,mw]at h;cases h
 |makeSlice t x y=>simp only[stepT,bQ,ho,mw]at h;cases h
 |buildSlice t n ps=>
  have hh:ty.h o≠1:=by
   simp only[stepT,bQ,ho]at h;intro e;split at h
   .split at h;.simp[e]at h
    cases h
   cases h
  simp only[aM,ho,h1,ay,ig,nP]
 |fieldAddr t a f'=>
  cases e:jr env a with
  |none=>simp only[ah,ho,e]at h1;split at h1<;>simp_all
  |some da=>
   cases da with
   |gu id n off=>
    simp only[stepT,bQ,ho]at h;split at h;.rename_i t1 t2;obtain⟨d9,t4,t5⟩:=bE hR.env t2;rw[e]at t4;cases t4;simp only[RT]at t5
    .rename_i t1 t2;obtain⟨d9,t4,t5⟩:=bE hR.env t2;rw[e]at t4;cases t4;simp only[RT]at t5
    cases h
   |_=>simp only[aM,ho,e,h1,ay,ig,nP]
 |indexAddr t a i=>
  cases e:jr env a with
  |none=>simp only[ah,ho,e]at h1;split at h1<;>simp_all
  |some da=>
   cases da with
   |jS id n ag=>
    simp only[stepT,bQ,ho]at h;split at h;.rename_i t1 t2 t3;simp only[af]at t2;obtain⟨u,t2,t6⟩:=t2;obtain⟨d9,t4,t5⟩:=bE hR.env t2;rw[e]at t4;cases t4;have t7:=cZ (tt:=tt) (t:=t) t5;rw[t6]at t7;simp only[RT]at t7
    .rename_i t1 t2 t3;simp only[af]at t2;obtain⟨u,t2,t6⟩:=t2;obtain⟨d9,t4,t5⟩:=bE hR.env t2;rw[e]at t4;cases t4;have t7:=cZ (tt:=tt) (t:=t) t5;rw[t6]at t7;simp only[RT]at t7
    .rename_i t1 t2 t3;simp only[af]at t2;obtain⟨u,t2,t6⟩:=t2;obtain⟨d9,t4,t5⟩:=bE hR.env t2;rw[e]at t4;cases t4;have t7:=cZ (tt:=tt) (t:=t) t5;rw[t6]at t7;simp only[RT]at t7
    cases h
   |_=>simp only[aM,ho,e,h1,ay,ig,nP]
 |lookup t m k b=>simp only[stepT,bQ,ho,mw]at h;cases h
 |mapUpdate t m k b=>simp only[stepT,bQ,ho,mw]at h;cases h
 |call cl=>
  obtain⟨callee,args,argTypes⟩:=cl;cases callee with
  |builtin b=>
   cases b with
   |append=>
    have key:ty.h o≠1/\∀id n ag,(args[0]?).bind (jr env)≠some (.jS id n ag):=by
     simp only[stepT,ho]at h;split at h
     .rename_i x y t u ha ht;split at h
      .rename_i QA;refine⟨QA.2,λid n ag he=>?_⟩;have h0:args[0]? =some x:=by rw[<-kV,ha];rfl
       rw[h0]at he
       replace he:jr env x=some (.jS id n ag):=he
       split at h;.rename_i t1 t2 t3;simp only[af]at t2;obtain⟨u,t2,t6⟩:=t2;obtain⟨d9,t4,t5⟩:=bE hR.env t2;rw[he]at t4;cases t4;have t7:=cZ (tt:=tt) (t:=t) t5;rw[t6]at t7;simp only[RT]at t7
       cases h
      cases h
     cases h
    cases e:(args[0]?).bind (jr env)with
    |none=>simp only[aM,ho,dm,e,h1,ay,ig,nP,if_neg key.1,Dl,aI,if_false]
    |some da=>
     cases da with
     |sl rows tok f=>cases tok<;>simp only[aM,ho,dm,e,h1,ay,ig,nP,if_neg key.1,Dl,aI,if_false]
     |jS id n ag=>exact absurd e (key.2 id n ag)
     |_=>simp only[aM,ho,dm,e,h1,ay,ig,nP,if_neg key.1,Dl,aI,if_false]
   |_=>simp only[aM,ho,h1,ay,ig,nP]
  |value f=>simp only[stepT,bQ,ho,mw]at h;cases h
  |_=>simp only[aM,ho,h1,ay,ig,nP]
 |_=>simp only[aM,ho,h1,ay,ig,nP]
def WL(P:Program)(ty:fR)(aK:bR)(call:bt)(yf:ej)(B:List Nat)(ops:Array Oper)(k:Nat)(te:List TV)(tS:List TB)(Q:List TV->List TB->Prop):Prop:=
 ∀ι env S,bT ι te tS env S->oE B tS->∃aL S' ι' bX bN,HM P ty aK call yf ops (ops.toList.drop k) env S=some (aL,S')/\bT ι' bX bN aL S'/\oE B bN/\Fr B ι S ι' S'/\Nn S.length S S'/\Q bX bN
theorem MS(h:bT ι te tS env S):∃w,Yk ι w:=by refine⟨λk'=>(Classical.epsilon λo:Option Nat=>∀k,ι k=some k'->o=some k),λk k' hk=>?_⟩;have:∃o:Option Nat,∀j,ι j=some k'->o=some j:=⟨some k,λj hj=>congrArg some (h.inj _ _ _ hk hj)⟩;exact Classical.epsilon_spec this k hk
theorem uS{xk:ai}(h:Nn S.length S S')(k:Nn S'.length S' xk):Nn S.length S xk:=by refine⟨bD h.1 k.1,λj hj hn=>?_⟩;have h1:=h.2 j hj hn;have:=(aA.1 h1).1;exact k.2 j (by omega) h1
theorem oL(h:bT ι te tS env S){v:TV}{d:DV}(hv:RT ι S v d)(dst:Option Tmp):bT ι (j8 te dst v) tS (ku env dst d) S:=⟨aeh h.env hv dst,h.cells,h.own,h.ql,h.inj,h.mp⟩
theorem oR{k:Nat}(ho:ops[k]? =some o):ops.toList.drop k=o::ops.toList.drop (k+1):=by
 have h:ops.toList[k]? =some o:=by simpa using ho
 obtain⟨hk,rfl⟩:=aA.1 h;exact qP hk
theorem adO{k:Nat}(hk:ops.size<=k){Q:List TV->List TB->Prop}(h:Q te tS):WL P ty aK call yf B ops k te tS Q:=by intro ι env S hR hB;rw[j3 (by simpa using hk)];exact⟨env,S,ι,te,tS,rfl,hR,hB,Fr.refl _ _ _,gF _ _,h⟩
theorem Zy{k:Nat}(ho:ops[k]? =some o)(hw:ez ops te o=some false){Q:List TV->List TB->Prop}
  (h:WL P ty aK call yf B ops (k+1) (j8 te o.dst QH) tS Q):WL P ty aK call yf B ops k te tS Q:=by
 intro ι env S hR hB;obtain⟨aL,xk,ι'',uk,um,k1,k2,k3,k4,k5,k6⟩:=h ι (ku env o.dst bF) S (oL hR MU _) hB;refine⟨aL,xk,ι'',uk,um,?_,k2,k3,k4,k5,k6⟩;rw[oR ho];simp only[HM,iJ hR.env hw,aI,if_false,k1]
theorem LY{k:Nat}{r:List Oper}(h:ops.toList.drop k=o::r):ops[k]? =some o/\r=ops.toList.drop (k+1):=by
 have h1:ops.toList[k]? =some o:=by have:=congrArg (·[0]?) h;simpa using this
 refine⟨by simpa using h1,?_⟩;have:=congrArg List.tail h;simpa using this.symm
end
end Go.Tv
