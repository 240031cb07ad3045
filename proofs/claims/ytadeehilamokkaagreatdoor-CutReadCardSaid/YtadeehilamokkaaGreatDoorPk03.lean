import Derived.Test.YtadeehilamokkaaGreatDoorPk02
namespace Go.Tv
open Go Go.Di
mutual
def vt(g:Nat):TV->TV
 |.sl t l (.o5 k)=>if k=g then .sl t l .no else .sl t l (.o5 k)
 |.sl t l (.BM _)=>.sl t l .no
 |.ptr id off=>if id=g then .unk else .ptr id off
 |.mp id=>if id=g then .unk else .mp id
 |.so id t=>if id=g then .unk else .so id t
 |.sp id t i off=>if id=g then .unk else .sp id t i off
 |.nj k fn te=>if k=g then .unk else .nj k fn (oB g te)
 |.agg l=>.agg (oB g l)
 |.tup l=>.tup (oB g l)
 |.fn f a b=>.fn f (oB g a) (oB g b)
 |v=>v
def oB(g:Nat):cn->cn
 |[]=>[]
 |a::l=>vt g a::oB g l
end
def pn(g:Nat):TB->TB
 |.cells l=>.cells (oB g l)
 |b=>b
def nu(tS:cp)(i:Nat)(b:TB):cp:=if i<tS.length then tS.set i b else tS++[b]
def ab9:TV->Bool
 |.val v=>!(v matches .tuple _)
 |.unk|.agg _|.tup _=>false
 |_=>true
def M4{α β:Type}(l:List α)(m:List β):Bool:=
 match l with
 |[]=>true
 |_::_=>match m with
  |[]=>false
  |_::_=>true
theorem XA{α β:Type}{l:List α}{m:List β}(h:M4 l m=true):l.length=0\/m.length≠0:=by unfold M4 at h;cases l<;>cases m<;>simp_all
structure TR where
 v:TV
 te:cn
 tS:cp
 Fg:cx
 c:Prop
section
variable (P:Program) (ty:fo) (tt:TypeId->cy)
def ku(te:cn)(o:Oper):cx:=
 match o.op with
 |.load _ a=>match fe te a with
  |some (.ptr id _)=>[id]
  |_=>[]
 |_=>[]
def stepT(te:cn)(tS:cp)(o:Oper)(nT:Nat):Option TR:=
 match o.op with
 |.alloc e=>match ty e with
  |some ⟨_,_,some z⟩=>some ⟨.ptr nT 0,te,nu tS nT (.cells (z.map sH)),[nT],True⟩
  |_=>none
 |.box _ x=>match fe te x with
  |some d=>if d.known then some ⟨.ptr nT 0,te,nu tS nT (.cells d.cells),[nT],True⟩else none
  |none=>none
 |.store t a x=>match ty t,fe te a,(fe te x).map (fA tt t)with
  |some d,some (.ptr id off),some v=>match tS[id]? with
   |some (.cells l)=>if v.known&&v.cells.length==d.size&&v.cells.all ab9 then(Mk l off v.cells).map λl'=>⟨.unk,te,tS.set id (.cells l'),[id],True⟩else none
   |_=>none
  |_,_,_=>none
 |.call {callee:=.builtin .append,args,argTypes}=>match args.toList,argTypes.toList with
  |[x,y],[t,u]=>if t=u/\ty.h o≠1 then match ty t,(fe te x).map (fA tt t),(fe te y).map (fA tt t)with
   |some ⟨.slice e s kN _,_,_⟩,some (.sl k l ap),some (.sl k' m _)=>match ty e with
    |some ⟨_,_,some _⟩=>if h:k'=k then
     if decide (0<s)&&decide (kN<=100000)&&k.size==s then match ap with
      |.no|.stop _|.BM _=>none
      |.full=>match ty.h o==3 with
       |true=>some ⟨.sl k (l++(h▸m)) (.o5 nT),te,nu tS nT (.own e s),[nT],l.length+m.length<=1000000000/\(l.length=0\/m.length≠0)⟩
       |false=>if M4 l m then some ⟨.sl k (l++(h▸m)) (.o5 nT),te,nu tS nT (.own e s),[nT],l.length+m.length<=1000000000⟩else none
      |.o5 g=>match tS[g]? with
       |some (.own e' s')=>if e'==e&&s'==s then some ⟨.sl k (l++(h▸m)) (.o5 g),oB g te,tS.map (pn g),[g,nT],l.length+m.length<=1000000000⟩else none
       |_=>none
     else none
     else none
    |_=>none
   |_,_,_=>none
   else none
  |_,_=>none
 |_=>(bJ P ty tt te tS o).map λr=>⟨r.1,te,tS,ku te o,r.2⟩
end
def gH(ρ:Operand->Option DV)(o:Oper)(aB:Nat):cx:=
 match o.op with
 |.alloc _|.box .. =>[aB]
 |.store _ a _=>match ρ a with
  |some (.ptr id _)=>[id]
  |_=>[]
 |.load _ a=>match ρ a with
  |some (.ptr id _)=>[id]
  |some (.fS id _ _)=>[id]
  |_=>[]
 |.call {callee:=.builtin .append,args,.. }=>match(args[0]?).bind ρ with
  |some (.sl _ (some t) _)=>[t,aB]
  |_=>[aB]
 |_=>[]
def FL:(t:TT)->t.den->List Value
 |.int k,n=>[.int k n]
 |.bool,b=>[.bool b]
 |.str,s=>[.string s]
 |.unit,_=>[]
 |.pair a b,x=>FL a x.1++FL b x.2
 |.sl _,_=>[]
def Jr(t:TT)(x:t.den):Value:=.agg (FL t x).toArray
def B1(t:TT)(l:List t.den):List (Value×Value):=l.map λx=>(Jr t x,.bool true)
def fC(t:TT):List t.den->cj->Prop
 |[],ds=>ds=[]
 |x::l,ds=>∃c m,ds=c++m/\CR t x c/\fC t l m
def acW:TB->Option DB->Prop
 |.map kt l,b=>b=some (.map (B1 kt l))
 |.rows t e l z,b=>0<t.size/\(t.agg||t.size==1)=true/\∃ds,b=some (.op e t.size ds z)/\fC t l ds
 |.loop,b=>∃r,b=some (.loop r)/\r.st=.ready/\r.jO=none
 |_,_=>True
structure bL (ι:kB) (te:cn) (tS:cp) (env:cj) (S:aj):Prop where
 env:cz ι S te env
 cells:H7 ι S tS
 own:∀k e s,tS[k]? =some (.own e s)->∀t,ι k=some t->∃n,S[t]? =some (.tail e s n)
 qc:∀k k',ι k=some k'->∃b,tS[k]? =some b/\b≠.none
 inj:∀i j k',ι i=some k'->ι j=some k'->i=j
 mp:∀k b,tS[k]? =some b->∀t,ι k=some t->acW b S[t]?
def Yd(ι:kB)(w:kB):Prop:=∀k k',ι k=some k'->w k'=some k
section
variable {P:Program} {ty:fo} {tt:TypeId->cy} {ι ι' w:kB} {S S':aj} {te:cn} {env:cj} {tS:cp} {aD:bR} {call:aY} {yf:di} {o:Oper} {aB nT:Nat} {r:TR}
def M8(a b:Option DB):Prop:=(∀e s n,a=some (.tail e s n)->b=some (.tail e s n))/\(∀e s l z,a=some (.op e s l z)->∃l' z',b=some (.op e s l' z')/\l'.length=l.length)/\∀r,a=some (.loop r)->b=some (.loop r)
theorem dm{a b:Option DB}(h:b=a):M8 a b:=by subst h;exact⟨λ_ _ _ h=>h,λ_ _ l z h=>⟨l,z,h,rfl⟩,λ_ h=>h⟩
theorem uN{a b:Option DB}(h1:∀e s n,a≠some (.tail e s n))(h2:∀e s l z,a≠some (.op e s l z))(h3:∀r,a≠some (.loop r)):M8 a b:=⟨λ_ _ _ h=>absurd h (h1 _ _ _),λ_ _ _ _ h=>absurd h (h2 _ _ _ _),λ_ h=>absurd h (h3 _)⟩
def iQ(ι:kB)(S:aj)(ι':kB)(S':aj)(bad:Nat->Prop):Prop:=∀k k',¬bad k->ι k=some k'->ι' k=some k'/\M8 S[k']? S'[k']?
theorem Qd{n:Nat}{tok:Option Nat}{f:SF}{ap:Ap}{bad:Nat->Prop}(h:iQ ι S ι' S' bad)(hb:∀g,ap=.o5 g\/ap=.BM g->¬bad g)(k:pq ι S n tok f ap):pq ι' S' n tok f ap:=by
 cases ap with
 |no=>trivial
 |full=>exact k
 |o5 g=>refine k.imp id λ⟨t,e,s,h1,h2,h3⟩=>?_;obtain⟨h4,h5⟩:=h g t (hb g (.inl rfl)) h1;exact⟨t,e,s,h4,h2,h5.1 _ _ _ h3⟩
 |stop b=>trivial
 |BM g=>refine k.imp id λ⟨t,e,s,h1,h2,h3⟩=>?_;obtain⟨h4,h5⟩:=h g t (hb g (.inr rfl)) h1;exact⟨t,e,s,h4,h2,h5.1 _ _ _ h3⟩
mutual
theorem ZV(h:iQ ι S ι' S' λ_=>False):∀(v:TV)(d:DV),RT ι S v d->RT ι' S' v d
 |.unk,_,_=>by simp only[RT]
 |.val _,d,k=>by cases d<;>simp only[RT]at k⊢;exact k
 |.jo,d,k=>by cases d<;>simp only[RT]at k⊢;exact k
 |.agg l,d,k=>by cases d<;>simp only[RT]at k⊢;exact bh h l _ k
 |.tup l,d,k=>by cases d<;>simp only[RT]at k⊢;exact bh h l _ k
 |.sl t l ap,d,k=>by cases d<;>simp only[RT]at k⊢;exact⟨k.1,Qd h (λ_ _=>id) k.2⟩
 |.ptr id off,d,k=>by cases d<;>simp only[RT]at k⊢;exact⟨(h _ _ (λe=>e) k.1).1,k.2⟩
 |.eU t l i off,d,k=>by cases d<;>simp only[RT]at k⊢;exact k
 |.mp id,d,k=>by cases d<;>simp only[RT]at k⊢;exact(h _ _ (λe=>e) k).1
 |.so g t,d,k=>by cases d<;>simp only[RT]at k⊢;obtain⟨k1,k2,e,s,l,z,k3,k4⟩:=k;obtain⟨h1,h2⟩:=h _ _ (λe=>e) k1;obtain⟨l',z',h3,h4⟩:=h2.2.1 e s l z k3;exact⟨h1,k2,e,s,l',z',h3,U⟩
 |.nj k0 fn te,d,k=>by cases d<;>simp only[RT]at k⊢;obtain⟨k1,ps,a,b,env,AW,k4,k2,k3⟩:=k;obtain⟨h1,h2⟩:=h _ _ (λe=>e) k1;exact⟨h1,ps,a,b,env,AW,k4,h2.2.2 _ k2,bh h te env k3⟩
 |.sp g t i off,d,k=>by cases d<;>simp only[RT]at k⊢;obtain⟨k1,k2,e,s,l,z,k3,k4,k5⟩:=k;obtain⟨h1,h2⟩:=h _ _ (λe=>e) k1;obtain⟨l',z',h3,h4⟩:=h2.2.1 e s l z k3;exact⟨h1,k2,e,s,l',z',h3,U,U⟩
 |.fn f a b,d,k=>by cases d<;>simp only[RT]at k⊢;exact⟨k.1,bh h a _ k.2.1,bh h b _ k.2.2⟩
theorem bh(h:iQ ι S ι' S' λ_=>False):∀(l:cn)(m:cj),cz ι S l m->cz ι' S' l m
 |[],m,k=>by rw[aN k];exact bH
 |a::l,m,k=>by obtain⟨d,m',rfl,h1,h2⟩:=ax k;exact aO (ZV h a d h1) (bh h l m' h2)
end
mutual
theorem adt{g:Nat}(h:iQ ι S ι' S' λk=>k=g):∀(v:TV)(d:DV),RT ι S v d->RT ι' S' (vt g v) d
 |.unk,_,_=>by simp only[vt,RT]
 |.val _,d,k=>by cases d<;>simp only[RT,vt]at k⊢;exact k
 |.jo,d,k=>by cases d<;>simp only[RT,vt]at k⊢;exact k
 |.agg l,d,k=>by cases d<;>simp only[RT,vt]at k⊢;exact mw h l _ k
 |.tup l,d,k=>by cases d<;>simp only[RT,vt]at k⊢;exact mw h l _ k
 |.sl t l .no,d,k=>by cases d<;>simp only[RT,vt]at k⊢;exact⟨k.1,trivial⟩
 |.sl t l .full,d,k=>by cases d<;>simp only[RT,vt]at k⊢;exact k
 |.sl t l (.stop _),d,k=>by cases d<;>simp only[RT,vt]at k⊢;exact⟨k.1,trivial⟩
 |.sl t l (.BM _),d,k=>by cases d<;>simp only[RT,vt]at k⊢;exact⟨k.1,trivial⟩
 |.sl t l (.o5 j),d,k=>by
  cases d<;>simp only[RT]at k;simp only[vt];split;simp only[RT];exact⟨k.1,trivial⟩
  rename_i hj;simp only[RT];exact⟨k.1,Qd h (λg' e=>by rcases e with e|e<;>cases e;exact hj) k.2⟩
 |.ptr id off,d,k=>by cases d<;>simp only[RT]at k;simp only[vt];split;simp only[RT];rename_i hj;simp only[RT];exact⟨(h _ _ hj k.1).1,k.2⟩
 |.eU t l i off,d,k=>by cases d<;>simp only[RT,vt]at k⊢;exact k
 |.mp id,d,k=>by cases d<;>simp only[RT]at k;simp only[vt];split;simp only[RT];rename_i hj;simp only[RT];exact(h _ _ hj k).1
 |.so j t,d,k=>by cases d<;>simp only[RT]at k;simp only[vt];split;simp only[RT];rename_i hj;simp only[RT];obtain⟨k1,k2,e,s,l,z,k3,k4⟩:=k;obtain⟨h1,h2⟩:=h _ _ hj k1;obtain⟨l',z',h3,h4⟩:=h2.2.1 e s l z k3;exact⟨h1,k2,e,s,l',z',h3,U⟩
 |.nj k0 fn te,d,k=>by cases d<;>simp only[RT]at k;simp only[vt];split;simp only[RT];rename_i hj;simp only[RT];obtain⟨k1,ps,a,b,env,AW,k4,k2,k3⟩:=k;obtain⟨h1,h2⟩:=h _ _ hj k1;exact⟨h1,ps,a,b,env,AW,k4,h2.2.2 _ k2,mw h te env k3⟩
 |.sp j t i off,d,k=>by cases d<;>simp only[RT]at k;simp only[vt];split;simp only[RT];rename_i hj;simp only[RT];obtain⟨k1,k2,e,s,l,z,k3,k4,k5⟩:=k;obtain⟨h1,h2⟩:=h _ _ hj k1;obtain⟨l',z',h3,h4⟩:=h2.2.1 e s l z k3;exact⟨h1,k2,e,s,l',z',h3,U,U⟩
 |.fn f a b,d,k=>by cases d<;>simp only[RT,vt]at k⊢;exact⟨k.1,mw h a _ k.2.1,mw h b _ k.2.2⟩
theorem mw{g:Nat}(h:iQ ι S ι' S' λk=>k=g):∀(l:cn)(m:cj),cz ι S l m->cz ι' S' (oB g l) m
 |[],m,k=>by rw[aN k];simp only[oB];exact bH
 |a::l,m,k=>by obtain⟨d,m',rfl,h1,h2⟩:=ax k;simp only[oB];exact aO (adt h a d h1) (mw h l m' h2)
end
def wG(tS:cp)(nT:Nat):Prop:=tS[nT]? =some .none\/nT=tS.length
def xK(S:aj)(aB:Nat):Prop:=S[aB]? =some .none\/aB=S.length
theorem cH{b:TB}(h:wG tS nT)(j:Nat):(nu tS nT b)[j]? =if j=nT then some b else tS[j]? :=by
 unfold nu;rcases h with h|h
 grind
 grind
theorem bC{b:DB}(h:xK S aB)(j:Nat):(eE S aB b)[j]? =if j=aB then some b else S[j]? :=by
 unfold eE;rcases h with h|h
 grind
 grind
def upd(ι:kB)(k k':Nat):kB:=λj=>if j=k then some k' else ι j
theorem bL.live (h:bL ι te tS env S){k k':Nat}(hk:ι k=some k'):∃b,S[k']? =some b/\b≠.none:=by
 obtain⟨b,h1,h2⟩:=h.qc k k' hk;cases b with
 |none=>exact(h2 rfl).elim
 |cells l=>obtain⟨k'',ds,h3,h4,-⟩:=h.cells k l h1;rw[hk]at h3;cases h3;exact⟨_,h4,λe=>ar⟩
 |own e s=>obtain⟨n,h3⟩:=h.own k e s h1 k' hk;exact⟨_,h3,λe=>ar⟩
 |map kt l=>exact⟨_,h.mp k _ h1 k' hk,λe=>ar⟩
 |rows t e l z=>obtain⟨-,-,ds,h3,-⟩:=h.mp k _ h1 k' hk;exact⟨_,h3,λe=>ar⟩
 |loop=>obtain⟨r,h3,-⟩:=h.mp k _ h1 k' hk;exact⟨_,h3,λe=>ar⟩
theorem bL.dx (h:bL ι te tS env S)(hn:xK S aB){k k':Nat}(hk:ι k=some k'):k'≠aB:=by
 rintro rfl;obtain⟨b,h1,h2⟩:=h.live hk;rcases hn with hn|hn
 grind
 grind
theorem bL.new (h:bL ι te tS env S)(hn:wG tS nT):ι nT=none:=by
 cases hk:ι nT with
 |none=>rfl
 |some k'=>
  obtain⟨b,h1,h2⟩:=h.qc _ _ hk;rcases hn with hn|hn
  grind
  grind
theorem qS(h:bL ι te tS env S)(hT:wG tS nT)(hn:xK S aB)(b:DB):iQ ι S (upd ι nT aB) (eE S aB b) λ_=>False:=by
 intro k k' _ hk;have h1:k≠nT:=by rintro rfl;rw[h.new hT]at hk;cases hk
 exact⟨by simp only[upd,h1,if_false];exact hk,dm (by rw[bC hn,if_neg (h.dx hn hk)])⟩
theorem pK(h:bL ι te tS env S)(hn:xK S aB)(hT:wG tS nT)(hw:Yd ι w):Yd (upd ι nT aB) (upd w aB nT):=by
 intro k k' hk;unfold upd at hk⊢;split at hk
 grind
 rw[if_neg (h.dx hn hk)];exact hw k k' hk
theorem vV(h:bL ι te tS env S)(hT:wG tS nT)(hn:xK S aB){ts:cn}{ds:cj}(hc:cz ι S ts ds):bL (upd ι nT aB) te (nu tS nT (.cells ts)) env (eE S aB (.cells ds)):=by
 have K:=qS h hT hn (.cells ds);refine⟨bh K _ _ h.env,λk l hk=>?_,λk e s hk t ht=>?_,λk k' hk=>?_,λi j k' hi hj=>?_,λk b hk t ht=>?_⟩;rw[cH hT]at hk;split at hk;rename_i e;subst e;cases hk;exact⟨aB,ds,by simp[upd],by rw[bC hn,if_pos rfl],bh K _ _ hc⟩;rename_i e;obtain⟨k',hU,h1,h2,h3⟩:=h.cells k l hk;exact⟨k',hU,by simp only[upd,e,if_false];exact h1,by rw[bC hn,if_neg (h.dx hn h1)];exact h2,bh K _ _ h3⟩;rw[cH hT]at hk;split at hk;cases hk;rename_i e';simp only[upd,e',if_false]at ht;obtain⟨n,h1⟩:=h.own k e s hk t ht;exact⟨n,by rw[bC hn,if_neg (h.dx hn ht)];exact h1⟩;rw[cH hT];split
 grind
 rename_i e;simp only[upd,e,if_false]at hk;exact h.qc k k' hk;unfold upd at hi hj;split at hi<;>split at hj;omega;cases hi;exact(h.dx hn hj rfl).elim
 cases hj;exact(h.dx hn hi rfl).elim
 exact h.inj i j k' hi hj;rw[cH hT]at hk;split at hk;cases hk;trivial
 rename_i e';simp only[upd,e',if_false]at ht;rw[bC hn,if_neg (h.dx hn ht)];exact h.mp k b hk t ht
theorem Ew(h:bL ι te tS env S)(hT:wG tS nT){e s:Nat}:bL ι te (nu tS nT (.own e s)) env S:=by
 refine⟨h.env,λk0 l0 hk=>?_,λk0 e0 s0 hk t0 E2=>?_,λk0 k1 hk=>?_,h.inj,λk0 b0 hk t0 E2=>?_⟩;rw[cH hT]at hk;split at hk;cases hk;exact h.cells _ _ hk;rw[cH hT]at hk;split at hk;rename_i e5;subst e5;rw[h.new hT]at E2;cases E2
 exact h.own _ _ _ hk _ E2;rw[cH hT];split
 grind
 exact h.qc _ _ hk;rw[cH hT]at hk;split at hk;cases hk;trivial
 exact h.mp _ _ hk _ E2
theorem Bu(h:bL ι te tS env S)(hT:wG tS nT)(hn:xK S aB)(e s n:Nat):bL (upd ι nT aB) te (nu tS nT (.own e s)) env (eE S aB (.tail e s (n*s))):=by
 refine⟨bh (qS h hT hn _) _ _ h.env,λk0 l0 hk=>?_,λk0 e0 s0 hk t0 E2=>?_,λk0 k1 hk=>?_,λi j k1 hi hj=>?_,λk0 b0 hk t0 E2=>?_⟩;rw[cH hT]at hk;split at hk;cases hk;rename_i e5;obtain⟨k',hU,n1,n2,n3⟩:=h.cells _ _ hk;exact⟨k',hU,by simp only[upd,e5,if_false];exact n1,by rw[bC hn,if_neg (h.dx hn n1)];exact n2,bh (qS h hT hn _) _ _ n3⟩;rw[cH hT]at hk;split at hk;rename_i e5;cases hk;simp only[upd,e5,if_true,aF]at E2;subst E2;exact⟨_,by rw[bC hn,if_pos rfl]⟩;rename_i e5;simp only[upd,e5,if_false]at E2;obtain⟨n,n1⟩:=h.own _ _ _ hk _ E2;exact⟨n,by rw[bC hn,if_neg (h.dx hn E2)];exact n1⟩;rw[cH hT];split
 grind
 rename_i e5;simp only[upd,e5,if_false]at hk;exact h.qc _ _ hk;unfold upd at hi hj;split at hi<;>split at hj;omega;cases hi;exact(h.dx hn hj rfl).elim
 cases hj;exact(h.dx hn hi rfl).elim
 exact h.inj i j k1 hi hj;rw[cH hT]at hk;split at hk;cases hk;trivial
 rename_i e5;simp only[upd,e5,if_false]at E2;rw[bC hn,if_neg (h.dx hn E2)];exact h.mp _ _ hk _ E2
def Lv(S:aj)(i:Nat):Prop:=∃b,S[i]? =some b/\b≠.none
structure Fr (B:cx) (ι:kB) (S:aj) (ι':kB) (S':aj):Prop where
 rest:∀k',Lv S k'->(∀k,ι k≠some k')->S'[k']? =S[k']?
 ours:∀k k',ι' k=some k'->(∃j,ι j=some k')\/¬Lv S k'
 base:∀k,k∈B->ι' k=ι k
def kX:Option cn->TB
 |some l=>.cells l
 |none=>.loop
def nM(B:cx)(tS:cp):Prop:=∀k,k∈B->∃l,tS[k]? =some (kX l)
theorem Fr.refl (B:cx)(ι:kB)(S:aj):Fr B ι S ι S:=⟨λ_ _ _=>rfl,λk _ h=>.inl ⟨k,h⟩,λ_ _=>rfl⟩
theorem Fr.trans {B:cx}{ι'':kB}{wq:aj}(h:Fr B ι S ι' S')(k:Fr B ι' S' ι'' wq):Fr B ι S ι'' wq where
 rest:=λk' hl hn=>by
  have h1:=h.rest k' hl hn;have jm:Lv S' k':=by obtain⟨b,h2,h3⟩:=hl;exact⟨b,h1.trans h2,h3⟩
  refine(k.rest k' jm λj hj=>?_).trans h1;rcases h.ours j k' hj with ⟨i,h2⟩|h2
  grind
  grind
 ours:=λj k' hj=>by
  rcases k.ours j k' hj with ⟨i,h1⟩|h1;exact h.ours i k' h1;by_cases hl:Lv S k';by_cases hn:∃j,ι j=some k'
  grind
  refine(h1 ?_).elim;obtain⟨b,h2,h3⟩:=hl;exact⟨b,(h.rest k' ⟨b,h2,h3⟩ λi hi=>hn ⟨i,hi⟩).trans h2,h3⟩
  grind
 base:=λj hj=>(k.base j hj).trans (h.base j hj)
theorem zc(hn:xK S aB):¬Lv S aB:=by
 rintro⟨b,h1,h2⟩;rcases hn with hn|hn
 grind
 grind
theorem rC{B:cx}{g:Nat}{b:DB}(hn:xK S aB)(hg:g∉B):Fr B ι S (upd ι g aB) (eE S aB b) where
 rest:=λk' hl _=>by rw[bC hn,if_neg];rintro rfl;exact zc hn hl
 ours:=λk k' hk=>by
  unfold upd at hk;split at hk;cases hk;exact .inr (zc hn)
  grind
 base:=λk hk=>by unfold upd;rw[if_neg (λe:k=g=>hg (e▸hk))]
theorem zY{B:cx}{k0 id:Nat}{b:DB}(hk:ι k0=some id):Fr B ι S ι (S.set id b) where
 rest:=λk' _ hn=>by rw[aM,if_neg];rintro rfl;exact hn k0 hk
 ours:=λk _ h=>.inl ⟨k,h⟩
 base:=λ_ _=>rfl
theorem mC{B:cx}(hB:nM B tS)(hT:wG tS nT):nT∉B:=by
 intro hlt;obtain⟨l,h1⟩:=hB _ hlt;rcases hT with hT|hT;rw[hT]at h1;cases l<;>cases h1
 grind
theorem iZ{B:cx}{b:TB}(hB:nM B tS)(hT:wG tS nT):nM B (nu tS nT b):=by intro k hk;have:=mC hB hT;rw[cH hT,if_neg (λe:k=nT=>this (e▸hk))];exact hB k hk
theorem aaT{B:cx}{g e s:Nat}(hB:nM B tS)(h:tS[g]? =some (.own e s)):g∉B:=by intro hlt;obtain⟨l,h1⟩:=hB _ hlt;rw[h]at h1;cases l<;>cases h1
def Nn(i:Nat)(S S':aj):Prop:=S.length<=S'.length/\∀j,j≠i->S[j]? =some .none->S'[j]? =some .none
theorem fM(i:Nat)(S:aj):Nn i S S:=⟨ai _,λ_ _ h=>h⟩
theorem nQ{b:DB}(hn:xK S aB):Nn aB S (eE S aB b):=by refine⟨?_,λj hj h=>by rw[bC hn,if_neg hj];exact h⟩;unfold eE;split<;>simp
theorem zT{i id:Nat}{b b':DB}(h:S[id]? =some b)(hb:b≠.none):Nn i S (S.set id b'):=by
 refine⟨ab,λj _ hj=>?_⟩;rw[aM,if_neg];exact hj
 grind
end
end Go.Tv
namespace Go.Tv
open Go Go.Di
variable {P:Program} {ty:fo} {tt:TypeId->cy} {ι ι' w:kB} {S S':aj} {te:cn} {env:cj} {tS:cp} {aD:bR} {call:aY} {yf:di} {o:Oper} {aB nT:Nat} {B:cx} {r:TR}
theorem Vj:∀{l:cn}{m:cj},cz ι S l m->l.all ab9=true->m.all DV.one=true
 |[],m,h,_=>by rw[aN h];rfl
 |a::l,m,h,k=>by obtain⟨d,m',rfl,h1,h2⟩:=ax h;simp only[cA,aC]at k⊢;refine⟨?_,Vj h2 k.2⟩;cases a<;>cases d<;>simp only[RT]at h1<;>first|rfl|(cases k.1;done)|(subst h1;exact k.1)
def H6(P:Program)(ty:fo)(aD:bR)(call:aY)(yf:di)(B:cx)(ι w:kB)(env:cj)(S:aj)(o:Oper)(aB:Nat)(r:TR):Prop:=
 ∃d S' ι' w',ah P ty aD call yf (iN env) o S aB=some (d,S')/\bL ι' r.te r.tS env S'/\RT ι' S' r.v d/\Yd ι' w'/\(∀j,j≠aB->w' j=w j)/\(∀j∈gH (iN env) o aB,(∃k∈r.Fg,w' j=some k)/\(j=aB\/∃i,ι i=some j))/\Fr B ι S ι' S'/\nM B r.tS/\Nn aB S S'
theorem V6(h:bL ι te tS env S)(hB:nM B tS)(hw:Yd ι w){t:TypeId}{a x:Operand}(ho:o.op=.store t a x)(hr:stepT P ty tt te tS o nT=some r):H6 P ty aD call yf B ι w env S o aB r:=by
 simp only[stepT,ho]at hr;split at hr;rename_i td id off v h1 h2 h3;split at hr;rename_i l h4;split at hr;rename_i hc;simp only[aC,dL]at hc;obtain⟨⟨c1,c2⟩,c3⟩:=hc;simp only[af]at hr h3;obtain⟨l',h5,rfl⟩:=hr;obtain⟨u,h6,h7⟩:=h3;obtain⟨da,k1,k2⟩:=bt h.env h2;cases da<;>simp only[RT]at k2;rename_i iz ry;obtain⟨k3,rfl⟩:=k2;obtain⟨d,k4,k5⟩:=bt h.env h6;have k6:=cK (tt:=tt) (t:=t) k5;rw[h7]at k6;have k7:=tQ c1 k6;obtain⟨aiD,ds,m1,m2,m3⟩:=h.cells id l h4;rw[k3]at m1;cases m1;obtain⟨hU,m4,m5⟩:=Ip m3 k7 h5;have K:iQ ι S ι (S.set iz (.cells hU)) λ_=>False:=λk k' _ hk=>⟨hk,by
  rw[aM];split;rename_i e1;subst e1;exact uN (by rw[m2];simp) (by rw[m2];simp) (by rw[m2];simp)
  exact dm rfl⟩
 have hlt:=(aI.1 m2).1;refine⟨bD,S.set iz (.cells hU),ι,w,?_,?_,by simp only[RT],hw,λ_ _=>rfl,?_,zY k3,?_,zT m2 (λe=>ar)⟩;have e1:d.cells.length=td.size:=by rw[gR k7];exact c2
 simp only[ah,ho,k1,k4,oL,h1,m2,e1,Vj k7 c3,decide_true,gh,if_true,m4,az];refine⟨bh K _ _ h.env,λk l0 hk=>?_,λk e s hk t0 ht=>?_,λk k' hk=>?_,h.inj,λk b0 hk t0 ht=>?_⟩;simp only[aM]at hk;split at hk;rename_i e1;subst e1;split at hk;cases hk;exact⟨iz,hU,k3,by rw[aM,if_pos rfl,if_pos hlt],bh K _ _ m5⟩;cases hk;rename_i e1;obtain⟨k',Mi,n1,n2,n3⟩:=h.cells k l0 hk;refine⟨k',Mi,n1,?_,bh K _ _ n3⟩;rw[aM,if_neg ?_];exact n2;rintro rfl;exact e1 (h.inj _ _ _ k3 n1)
 simp only[aM]at hk;split at hk
 grind
 obtain⟨n,n1⟩:=h.own k e s hk t0 ht;exact⟨n,(K k t0 (λe=>e) ht).2.1 _ _ _ n1⟩;simp only[aM];split
 grind
 exact h.qc k k' hk;simp only[aM]at hk;split at hk;split at hk<;>cases hk;trivial;rename_i e1;rw[aM,if_neg];exact h.mp k b0 hk t0 ht;rintro rfl;exact e1 (h.inj _ _ _ k3 ht)
 intro j hj;simp only[gH,ho,k1,bQ]at hj;subst hj;exact⟨⟨id,ab,hw _ _ k3⟩,.inr ⟨_,k3⟩⟩;intro k hk;simp only[aM];split;rename_i e1;subst e1;exact⟨some _,if_pos (aI.1 h4).1⟩;exact hB k hk;cases hr;cases hr;cases hr
theorem Re{k k':TT}(h:k'=k){m:List k'.den}{rows:cj}(hr:dZ (CR k') k'.agg m rows):dZ (CR k) k.agg (h▸m) rows:=by grind
theorem K8{k k':TT}(h:k'=k)(m:List k'.den):(h▸m:List k.den).length=m.length:=by grind
theorem BB{rows:cj}(h:rows.isEmpty=true):rows=[]:=CJ.1 h
theorem SL(h:bL ι te tS env S)(hB:nM B tS)(hw:Yd ι w)(hT:wG tS nT)(hn:xK S aB){args:Array Operand}{argTypes:Array TypeId}(ho:o.op=.call {callee:=.builtin .append,args,argTypes})(hr:stepT P ty tt te tS o nT=some r)(hc:r.c):H6 P ty aD call yf B ι w env S o aB r:=by
 simp only[stepT,ho]at hr;split at hr
 .rename_i x y t u ha ht;split at hr
  .rename_i SS;obtain⟨SS,hh⟩:=SS;subst SS;split at hr
   .rename_i e s kN ag sz z0 k l ap k' m _ h1 h2 h3;split at hr
    .rename_i k0 sz' z h4;split at hr
     .rename_i FG;split at hr
      .rename_i oH;simp only[aC,dL,bP]at oH;obtain⟨⟨c1,c2⟩,c3⟩:=oH;simp only[af]at h2 h3;obtain⟨ux,e1,e2⟩:=h2;obtain⟨uy,e3,e4⟩:=h3;obtain⟨da,k1,k2⟩:=bt h.env e1;have k3:=cK (tt:=tt) (t:=t) k2;rw[e2]at k3;obtain⟨db,k4,k5⟩:=bt h.env e3;have k6:=cK (tt:=tt) (t:=t) k5;rw[e4]at k6;cases da<;>simp only[RT]at k3;rename_i rows tok f;cases db<;>simp only[RT]at k6;rename_i news ag1 f';obtain⟨k3,kap⟩:=k3;obtain⟨k6,-⟩:=k6;have hla:=lz k3;have hlb:=lz k6;have k6':=Re FG k6;have acD:=Br k3 k6';have xD:(rows.all λr=>decide (r.cells.length=s))=true:=aR.2 λr hr=>pU ((je k3 r hr).trans c3);have uC:(news.all λr=>decide (r.cells.length=s))=true:=aR.2 λr hr=>pU ((je k6' r hr).trans c3);have hx:(args[0]?).bind (iN env)=some (.sl rows tok f):=by
        have:args[0]? =some x:=by rw[<-jx,ha];rfl
        rw[this];exact k1
       have OC:gH (iN env) o aB=match tok with|some t=>[t,aB]|none=>[aB]:=by simp only[gH,ho,hx];cases tok<;>rfl
       have Za:l.length+m.length<=1000000000->(decide (0<s)&&decide ((rows.length+news.length)*kN<=fE)&&decide (rows.length+news.length<=140737488355328-4096)&&news.all (λr=>decide (r.cells.length=s)))=true:=by
        intro hle;simp only[aC,bP];rw[hla,hlb];refine⟨⟨⟨c1,?_⟩,U⟩,uC⟩
        calc (l.length+m.length)*kN<=1000000000*100000:=Nat.mul_le_mul hle c2
         _<=fE:=ae
       have hz:∀d S',jv ty S aB t (.sl rows tok f) (.sl news ag1 f')=some (d,S')->ah P ty aD call yf (iN env) o S aB=some (d,S'):=by intro d S' hd;simp only[ah,ho,ha,ht,if_true,k1,k4,hd]
       split at hr;cases hr;cases hr;cases hr;obtain⟨c0,Jm,hc0,adR⟩:∃c,r=⟨.sl k (l++(FG▸m)) (.o5 nT),te,nu tS nT (.own e s),[nT],c⟩/\(l.length+m.length<=1000000000)/\(l.length=0\/m.length≠0):=by
        split at hr
        grind
        split at hr;rename_i hf;cases hr;exact⟨_,rfl,hc,XA hf⟩
        cases hr
       subst Jm;obtain⟨rfl,xQ⟩:=kap;have Ze:=Za hc0;by_cases Om:news.isEmpty=true;have hm:m=[]:=eP (by rw[<-hlb,BB Om];rfl);subst hm;refine⟨.sl rows none f,S,ι,upd w aB nT,hz _ _ (by simp only[jv,h1,Om,if_true]),?_,?_,?_,?_,?_,Fr.refl _ _ _,iZ hB hT,fM _ _⟩;exact Ew h hT;simp only[RT];have YB:l=[]:=by grind
       refine⟨?_,.inl ⟨rfl,xQ,by rw[hla,YB];rfl⟩⟩;have e7:(FG▸([]:List k'.den):List k.den)=[]:=eP (by rw[K8];rfl);rw[e7,iJ];exact k3;intro a b o7;unfold upd;rw[if_neg (h.dx hn o7)];exact hw _ _ o7;intro j hj;unfold upd;rw[if_neg hj]
       intro j hj;rw[OC,bQ]at hj;exact⟨⟨nT,ab,by simp[upd,hj]⟩,.inl hj⟩
       skip
       refine⟨.sl (rows++news) (some aB) ⟨false,none⟩,eE S aB (.tail e s ((rows.length+news.length)*s)),upd ι nT aB,upd w aB nT,hz _ _ ?_,?_,?_,pK h hn hT hw,?_,?_,rC hn (mC hB hT),iZ hB hT,nQ hn⟩;simp only[jv,h1,Om,aJ,if_false,h4,Ze,if_true,xQ,xD,gh];exact Bu h hT hn e s _;simp only[RT];refine⟨acD,.inr ⟨aB,e,s,by simp[upd],rfl,?_⟩⟩;rw[bC hn,if_pos rfl,dM];intro j hj;unfold upd;rw[if_neg hj]
       intro j hj;rw[OC,bQ]at hj;exact⟨⟨nT,ab,by simp[upd,hj]⟩,.inl hj⟩;rename_i g;split at hr
       .rename_i e' s' dO;split at hr
        .rename_i hes;simp only[aC,dL]at hes;obtain⟨rfl,rfl⟩:=hes;simp only[aF]at hr;subst hr;have Ze:=Za hc;have htS:∀j,(tS.map (pn g))[j]? =(tS[j]?).map (pn g):=λj=>cI ..;have hgn:g≠nT:=by
          rintro rfl;rcases hT with hT|hT
          grind
          grind
         have hBm:nM B (tS.map (pn g)):=λk hk=>by obtain⟨l0,h0⟩:=hB k hk;exact⟨l0.map (oB g),by rw[htS,h0];cases l0<;>rfl⟩
         have share:∀(ι':kB)(S':aj),iQ ι S ι' S' (λk=>k=g)->(∀k k',k≠g->(ι' k=some k'↔ι k=some k'))->(∀k k' b,k≠g->ι k=some k'->(∀e s n,b≠.tail e s n)->S[k']? =some b->S'[k']? =some b)->
           (∀t,ι' g=some t->∃n,S'[t]? =some (.tail e' s' n))->(∀k k',k≠g->ι k=some k'->ι' g≠some k')->bL ι' (oB g te) (tS.map (pn g)) env S':=by
          intro ι' S' K hιe dw hg aiK;refine⟨mw K _ _ h.env,λk0 l0 hk=>?_,λk0 e0 s0 hk t0 E2=>?_,λk0 k1 hk=>?_,λi j k1 hi hj=>?_,λk0 b0 hk t0 E2=>?_⟩
          .rw[htS]at hk;simp only[af]at hk;obtain⟨b,hb,Cg⟩:=hk;have hne:k0≠g:=by rintro rfl;rw[dO]at hb;cases hb;cases Cg
           cases b<;>simp only[pn]at Cg<;>first|(cases Cg;done)|skip
           rename_i lb;cases Cg;obtain⟨k',hU,n1,n2,n3⟩:=h.cells _ _ hb;exact⟨k',hU,(hιe _ _ hne).2 n1,dw _ _ _ hne n1 (λ_ _ _ e=>ar) n2,mw K _ _ n3⟩
          .rw[htS]at hk;simp only[af]at hk;obtain⟨b,hb,Cg⟩:=hk;cases b<;>simp only[pn]at Cg<;>first|(cases Cg;done)|skip
           cases Cg;by_cases hg0:k0=g
           grind
           have ht1:=(hιe _ _ hg0).1 E2;obtain⟨n,n1⟩:=h.own _ _ _ hb _ ht1;exact⟨n,(K k0 t0 hg0 ht1).2.1 _ _ _ n1⟩
          rw[htS];by_cases hg0:k0=g;subst hg0;exact⟨_,by rw[dO];rfl,λe=>ar⟩;obtain⟨b,n1,n2⟩:=h.qc _ _ ((hιe _ _ hg0).1 hk);exact⟨_,by rw[n1];rfl,λe=>by cases b<;>first|(exact n2 rfl)|cases e⟩;by_cases hig:i=g<;>by_cases hjg:j=g
          grind
          grind
          grind
          exact h.inj i j k1 ((hιe _ _ hig).1 hi) ((hιe _ _ hjg).1 hj);rw[htS]at hk;simp only[af]at hk;obtain⟨b,hb,Cg⟩:=hk;by_cases hne:k0=g;subst hne;rw[dO]at hb;cases hb;subst Cg;trivial;have ht1:=(hιe _ _ hne).1 E2;have h1:=h.mp _ _ hb _ ht1;subst Cg;cases b with
          |map kt l=>exact dw _ _ _ hne ht1 (λ_ _ _ e=>ar) h1
          |rows t e l z=>obtain⟨q0,q1,ds,q2,q3⟩:=h1;exact⟨q0,q1,ds,dw _ _ _ hne ht1 (λ_ _ _ e=>ar) q2,q3⟩
          |loop=>obtain⟨r,q2,q3⟩:=h1;exact⟨r,dw _ _ _ hne ht1 (λ_ _ _ e=>ar) q2,q3⟩
          |_=>trivial
         by_cases Om:news.isEmpty=true;have hm:m=[]:=eP (by rw[<-hlb,BB Om];rfl);subst hm;have e7:(FG▸([]:List k'.den):List k.den)=[]:=eP (by rw[K8];rfl);refine⟨.sl rows tok f,S,ι,upd w aB nT,hz _ _ (by simp only[jv,h1,Om,if_true]),share ι S (λk k' _ hk=>⟨hk,dm rfl⟩) (λ_ _ _=>Iff.rfl) (λ_ _ _ _ _ _ h=>h) (λt ht=>h.own g _ _ dO t ht) (λk k' hk h1 h2=>hk (h.inj _ _ _ h1 h2)),?_,?_,?_,?_,Fr.refl _ _ _,hBm,fM _ _⟩;simp only[RT];rw[e7,iJ];exact⟨k3,kap⟩;intro a b o7;unfold upd;rw[if_neg (h.dx hn o7)];exact hw _ _ o7;intro j hj;unfold upd;rw[if_neg hj]
         intro j hj;rw[OC]at hj;cases tok with
         |none=>simp only[bQ]at hj;exact⟨⟨nT,ab,by simp[upd,hj]⟩,.inl hj⟩
         |some tk=>simp only[aX,ez,or_false]at hj;rcases hj with rfl|rfl;rcases kap with ⟨h0,-⟩|⟨t0,e0,s0,a1,a2,a3⟩;cases h0;cases a2;exact⟨⟨g,ab,by simp only[upd,h.dx hn a1,if_false];exact hw _ _ a1⟩,.inr ⟨_,a1⟩⟩;exact⟨⟨nT,ab,by simp[upd]⟩,.inl rfl⟩
         rcases kap with ⟨rfl,xQ,aiZ⟩|⟨t0,e0,s0,a1,rfl,a3⟩;have FH:iQ ι S (upd ι g aB) (eE S aB (.tail e' s' ((rows.length+news.length)*s'))) (λk=>k=g):=λk k' hk h2=>⟨by simp only[upd,hk,if_false];exact h2,dm (by rw[bC hn,if_neg (h.dx hn h2)])⟩;refine⟨.sl (rows++news) (some aB) ⟨false,none⟩,eE S aB (.tail e' s' ((rows.length+news.length)*s')),upd ι g aB,λj=>if j=aB then some g else w j,hz _ _ ?_,share _ _ FH (λk k' hk=>by simp only[upd,hk,if_false]) (λk k' ds hk h2 _ h3=>by rw[bC hn,if_neg (h.dx hn h2)];exact h3) (λt ht=>?_) (λk k' hk h2 h3=>?_),?_,?_,?_,?_,rC hn (aaT hB dO),hBm,nQ hn⟩;simp only[jv,h1,Om,aJ,if_false,h4,Ze,if_true,xQ,xD,gh];simp only[upd,if_true,aF]at ht;subst ht;exact⟨_,by rw[bC hn,if_pos rfl]⟩;simp only[upd,if_true,aF]at h3;exact h.dx hn h2 h3.symm;simp only[RT];refine⟨acD,.inr ⟨aB,e',s',by simp[upd],rfl,?_⟩⟩;rw[bC hn,if_pos rfl,dM];intro a b o7;unfold upd at o7;split at o7
         grind
         show(if b=aB then some g else w b)=some a;rw[if_neg (h.dx hn o7)];exact hw _ _ o7
         grind
         grind
         obtain⟨n,a4⟩:=h.own g _ _ dO t0 a1;rw[a3]at a4;cases a4;have hne:t0≠aB:=h.dx hn a1;have hlt:=(aI.1 a3).1;have aS:∀j,j≠t0->(S.set t0 (.tail e' s' ((rows.length+news.length)*s')))[j]? =S[j]? :=λj hj=>by rw[aM,if_neg (Ne.symm hj)]
         have FH:iQ ι S ι (S.set t0 (.tail e' s' ((rows.length+news.length)*s'))) (λk=>k=g):=λk k' hk h2=>⟨h2,dm (by rw[aS k' (λe9=>hk (h.inj _ _ _ h2 (by rw[e9];exact a1)))])⟩;refine⟨.sl (rows++news) (some t0) ⟨false,none⟩,S.set t0 (.tail e' s' ((rows.length+news.length)*s')),ι,λj=>if j=aB then some nT else w j,hz _ _ ?_,share _ _ FH (λ_ _ _=>Iff.rfl) (λk k' ds hk h2 _ h3=>by rw[aS k' (λe9=>hk (h.inj _ _ _ h2 (by rw[e9];exact a1)))];exact h3) (λt ht=>?_) (λk k' hk h2 h3=>hk (h.inj _ _ _ h2 h3)),?_,?_,?_,?_,zY a1,hBm,zT a3 (λe=>ar)⟩;simp only[jv,h1,Om,aJ,if_false,h4,Ze,if_true,a3,decide_true,gh]
         grind
         simp only[RT];refine⟨acD,.inr ⟨t0,e',s',a1,rfl,?_⟩⟩;rw[aM,if_pos rfl,if_pos hlt,dM];intro a b o7;show(if b=aB then some nT else w b)=some a;rw[if_neg (h.dx hn o7)];exact hw _ _ o7
         grind
         intro j hj;rw[OC]at hj;simp only[aX,ez,or_false]at hj;rcases hj with rfl|rfl;exact⟨⟨g,ab,by simp only[hne,if_false];exact hw _ _ a1⟩,.inr ⟨_,a1⟩⟩
         grind
        cases hr
       cases hr
      cases hr
     cases hr
    cases hr
   cases hr
  cases hr
 cases hr
theorem V8(h:bL ι te tS env S)(hB:nM B tS)(hw:Yd ι w)(hT:wG tS nT)(hn:xK S aB)(hr:stepT P ty tt te tS o nT=some r)(hc:r.c):H6 P ty aD call yf B ι w env S o aB r:=by
 have pure:(bJ P ty tt te tS o).map (λr=>(⟨r.1,te,tS,ku te o,r.2⟩:TR))=some r->(∀j∈gH (iN env) o aB,(∃k∈ku te o,w j=some k)/\(j=aB\/∃i,ι i=some j))->H6 P ty aD call yf B ι w env S o aB r:=by intro hp hf;simp only[af]at hp;obtain⟨⟨v,c⟩,h1,rfl⟩:=hp;obtain⟨d,h2,h3⟩:=Kr (aD:=aD) (call:=call) (yf:=yf) (aB:=aB) h.env h.cells h1 hc;exact⟨d,S,ι,w,h2,h,h3,hw,λ_ _=>rfl,hf,Fr.refl _ _ _,hB,fM _ _⟩
 have quiet:gH (iN env) o aB=[]->(∀j∈gH (iN env) o aB,(∃k∈ku te o,w j=some k)/\(j=aB\/∃i,ι i=some j)):=λe j hj=>by rw[e]at hj;cases hj
 cases ho:o.op with
 |alloc e=>simp only[stepT,ho]at hr;split at hr;rename_i k sz z h1;cases hr;refine⟨.ptr aB 0,eE S aB (.cells z),upd ι nT aB,upd w aB nT,by simp only[ah,ho,h1],vV h hT hn (uH z),by simp[RT,upd],pK h hn hT hw,λj hj=>by simp only[upd,hj,if_false],λj hj=>?_,rC hn (mC hB hT),iZ hB hT,nQ hn⟩;simp only[gH,ho,bQ]at hj;exact⟨⟨nT,ab,by simp[upd,hj]⟩,.inl hj⟩;cases hr
 |box t x=>simp only[stepT,ho]at hr;split at hr;rename_i v h1;split at hr;rename_i hk;cases hr;obtain⟨d,k1,k2⟩:=bt h.env h1;refine⟨.ptr aB 0,eE S aB (.cells d.cells),upd ι nT aB,upd w aB nT,by simp only[ah,ho,k1],vV h hT hn (tQ hk k2),by simp[RT,upd],pK h hn hT hw,λj hj=>by simp only[upd,hj,if_false],λj hj=>?_,rC hn (mC hB hT),iZ hB hT,nQ hn⟩;simp only[gH,ho,bQ]at hj;exact⟨⟨nT,ab,by simp[upd,hj]⟩,.inl hj⟩;cases hr;cases hr
 |store t a x=>exact V6 h hB hw ho hr
 |load t a=>simp only[stepT,ho]at hr;refine pure hr λj hj=>?_;simp only[gH,ho]at hj;split at hj;rename_i iz ry h1;simp only[bQ]at hj;subst hj;simp only[af,bJ,ho]at hr;obtain⟨q,h2,-⟩:=hr;split at h2;rename_i td id off h3 h4;obtain⟨d,k1,k2⟩:=bt h.env h4;rw[h1]at k1;cases k1;simp only[RT]at k2;exact⟨⟨id,by simp[ku,ho,h4],hw _ _ k2.1⟩,.inr ⟨_,k2.1⟩⟩;rename_i td e l i off h3 h4;obtain⟨d,k1,k2⟩:=bt h.env h4;rw[h1]at k1;cases k1;simp only[RT]at k2;cases h2;rename_i iz n' ry h1;simp only[af,bJ,ho]at hr;obtain⟨q,h2,-⟩:=hr;split at h2;rename_i td id off h3 h4;obtain⟨d,k1,k2⟩:=bt h.env h4;rw[h1]at k1;cases k1;simp only[RT]at k2;rename_i td e l i off h3 h4;obtain⟨d,k1,k2⟩:=bt h.env h4;rw[h1]at k1;cases k1;simp only[RT]at k2;cases h2;cases hj
 |call cl=>
  obtain⟨callee,args,argTypes⟩:=cl;cases callee with
  |builtin b=>
   cases b with
   |append=>exact SL h hB hw hT hn ho hr hc
   |_=>simp only[stepT,ho]at hr;exact pure hr (quiet (by simp only[gH,ho]))
  |_=>simp only[stepT,ho]at hr;exact pure hr (quiet (by simp only[gH,ho]))
 |_=>simp only[stepT,ho]at hr;exact pure hr (quiet (by simp only[gH,ho]))
end Go.Tv
namespace Go.Tv
open Go Go.Di
def Qx:TV:=.val (.tuple #[])
def jI(te:cn)(dst:Option Tmp)(v:TV):cn:=
 match dst with
 |some d=>te.set d v
 |none=>te
def dI(ops:Array Oper)(te:cn)(o:Oper):Option Bool:=
 match o.guard with
 |none=>some true
 |some (j,want)=>match(ops[j]?).bind (·.dst)with
  |some d=>match te[d]? with
   |some (.val (.bool b))=>some (match want with|true=>b|false=>!b)
   |some .unk=>none
   |some (.val _)=>some false
   |_=>none
  |none=>some false
def mO(o:Oper):Bool:=
 match o.op with
 |.alloc _|.box .. |.store .. =>true
 |.call {callee:=.builtin .append,.. }=>true
 |_=>false
def adN(o:Oper):Bool:=
 match o.op with
 |.call {callee:=.value _,.. }=>true
 |_=>false
def zA(tS:cp)(nT:Nat):Bool:=
 match tS[nT]? with
 |some .none=>true
 |none=>nT==tS.length
 |_=>false
section
variable (P:Program) (ty:fo) (tt:TypeId->cy)
end
section
variable {P:Program} {ty:fo} {tt:TypeId->cy} {ι ι' w:kB} {S S':aj} {te:cn} {env:cj} {tS:cp} {aD:bR} {call:aY} {yf:di} {o:Oper} {aB nT:Nat} {B:cx} {r:TR} {ops:Array Oper}
theorem adv{v:TV}{d:DV}(h:cz ι S te env)(hv:RT ι S v d)(dst:Option Tmp):cz ι S (jI te dst v) (jN env dst d):=by
 cases dst with
 |none=>exact h
 |some t=>exact Ij t h hv
theorem MC:RT ι S Qx bD:=by simp only[Qx,bD,RT]
theorem gW(h:cz ι S te env){b:Bool}(hw:dI ops te o=some b):b9 ops env o=b:=by
 unfold dI at hw;unfold b9;split at hw;rename_i e;cases hw;rw[e]
 rename_i j want e;rw[e];dsimp only;split at hw;rename_i d e1;rw[e1];dsimp only;split at hw;rename_i b' e2;cases hw;obtain⟨d',k1,k2⟩:=uI h e2;cases d'<;>simp only[RT]at k2;subst k2;rw[k1];cases b'<;>cases want<;>rfl;cases hw;rename_i v hv e2;cases hw;obtain⟨d',k1,k2⟩:=uI h e2;cases d'<;>simp only[RT]at k2;rw[k2]at k1;rw[k1];cases v<;>first|rfl|exact(hv _ rfl).elim
 cases hw;rename_i e1;cases hw;rw[e1]
theorem aai(h:zA tS nT=true):wG tS nT:=by
 unfold zA at h;split at h;rename_i e;exact .inl e
 exact .inr (by simpa using h);cases h
def JW(w:kB)(f ft:cM):Prop:=(f.wr=true->ft.wr=true)/\∀l,ft.ids=some l->∃m,f.ids=some m/\∀j∈m,∃k∈l,w j=some k
def Does(P:Program)(ty:fo)(aD:bR)(call:aY)(yf:di)(B:cx)(o:Oper)(nT:Nat)(te:cn)(tS:cp)(dr:Bool)(Q:TV->cn->cp->cM->Prop):Prop:=
 ∀ι w env S aB,bL ι te tS env S->nM B tS->Yd ι w->wG tS nT->xK S aB->(dr=true->S[aB]? =some .none)->
  ∃d S' ι' w' v bO bI f ft,(dr=false->ah P ty aD call yf (iN env) o S aB=some (d,S'))/\(dr=true->aH P ty aD call yf (iN env) o S aB=some (d,S',f))/\JW w' f ft/\(∀l m,ft.ids=some l->f.ids=some m->∀j∈m,j=aB\/∃i,ι i=some j)/\
   bL ι' bO bI env S'/\RT ι' S' v d/\Yd ι' w'/\(dr=true->∀j,j≠aB->w' j=w j)/\Fr B ι S ι' S'/\nM B bI/\Nn aB S S'/\Q v bO bI ft
theorem kI(h:stepT P ty tt te tS o nT=some r)(hc:r.c)(dr:Bool):Does P ty aD call yf B o nT te tS dr λv bO bI ft=>v=r.v/\bO=r.te/\bI=r.tS/\ft=⟨some r.Fg,mO o⟩:=by
 intro ι w env S aB hR hB hw hT hn hS;obtain⟨d,S',ι',w',h1,h2,h3,h4,h5,h6,h7,h8,h9⟩:=V8 (aD:=aD) (call:=call) (yf:=yf) hR hB hw hT hn h hc;refine⟨d,S',ι',w',r.v,r.te,r.tS,⟨some (gH (iN env) o aB),mO o⟩,⟨some r.Fg,mO o⟩,λ_=>h1,λhd=>?_,⟨id,λl hl=>⟨_,rfl,λj hj=>by cases hl;exact(h6 j hj).1⟩⟩,λl m hl hm j hj=>by cases hm;exact(h6 j hj).2,h2,h3,h4,λ_=>h5,h7,h8,h9,rfl,rfl,rfl,rfl⟩;have dN:=hS hd;cases ho:o.op with
 |alloc e=>simp only[aH,ho,dN,h1,az,gH,mO]
 |box t x=>simp only[aH,ho,dN,h1,az,gH,mO]
 |store t a x=>
  have:∃id off,iN env a=some (.ptr id off):=by simp only[ah,ho]at h1;split at h1;rename_i a' v' e1 e2;simp only[af]at h1;obtain⟨q,h1,-⟩:=h1;unfold oL at h1;split at h1;exact⟨_,_,e1⟩;simp only[stepT,ho]at h;split at h;rename_i t1 t2 t3;obtain⟨d9,t4,t5⟩:=bt hR.env t2;rw[e1]at t4;cases t4;simp only[RT]at t5;cases h;cases h1;cases h1
  obtain⟨id,off,e⟩:=this;simp only[aH,ho,e,h1,az,gH,mO]
 |load t a=>
  cases e:iN env a with
  |none=>simp only[ah,ho,e]at h1;cases h1
  |some da=>cases da<;>simp only[aH,ho,e,h1,az,gH,mO]
 |makeMap t x=>simp only[stepT,bJ,ho,lg]at h;cases h
 |makeSlice t x y=>simp only[stepT,bJ,ho,lg]at h;cases h
 |buildSlice t n ps=>
  have hh:ty.h o≠1:=by simp only[stepT,bJ,ho]at h;intro e;split at h;split at h;simp[e]at h;cases h;cases h
  simp only[aH,ho,h1,az,gH,mO]
 |fieldAddr t a f'=>
  cases e:iN env a with
  |none=>simp only[ah,ho,e]at h1;split at h1<;>simp_all
  |some da=>
   cases da with
   |fS id n off=>simp only[stepT,bJ,ho]at h;split at h;rename_i t1 t2;obtain⟨d9,t4,t5⟩:=bt hR.env t2;rw[e]at t4;cases t4;simp only[RT]at t5;rename_i t1 t2;obtain⟨d9,t4,t5⟩:=bt hR.env t2;rw[e]at t4;cases t4;simp only[RT]at t5;cases h
   |_=>simp only[aH,ho,e,h1,az,gH,mO]
 |indexAddr t a i=>
  cases e:iN env a with
  |none=>simp only[ah,ho,e]at h1;split at h1<;>simp_all
  |some da=>
   cases da with
   |jl id n ag=>simp only[stepT,bJ,ho]at h;split at h;rename_i t1 t2 t3;simp only[af]at t2;obtain⟨u,t2,t6⟩:=t2;obtain⟨d9,t4,t5⟩:=bt hR.env t2;rw[e]at t4;cases t4;have t7:=cK (tt:=tt) (t:=t) t5;rw[t6]at t7;simp only[RT]at t7;rename_i t1 t2 t3;simp only[af]at t2;obtain⟨u,t2,t6⟩:=t2;obtain⟨d9,t4,t5⟩:=bt hR.env t2;rw[e]at t4;cases t4;have t7:=cK (tt:=tt) (t:=t) t5;rw[t6]at t7;simp only[RT]at t7;rename_i t1 t2 t3;simp only[af]at t2;obtain⟨u,t2,t6⟩:=t2;obtain⟨d9,t4,t5⟩:=bt hR.env t2;rw[e]at t4;cases t4;have t7:=cK (tt:=tt) (t:=t) t5;rw[t6]at t7;simp only[RT]at t7;cases h
   |_=>simp only[aH,ho,e,h1,az,gH,mO]
 |lookup t m k b=>simp only[stepT,bJ,ho,lg]at h;cases h
 |mapUpdate t m k b=>simp only[stepT,bJ,ho,lg]at h;cases h
 |call cl=>
  obtain⟨callee,args,argTypes⟩:=cl;cases callee with
  |builtin b=>
   cases b with
   |append=>
    have key:ty.h o≠1/\∀id n ag,(args[0]?).bind (iN env)≠some (.jl id n ag):=by
     simp only[stepT,ho]at h;split at h;rename_i x y t u ha ht;split at h;rename_i SS;refine⟨SS.2,λid n ag he=>?_⟩;have h0:args[0]? =some x:=by rw[<-jx,ha];rfl
     rw[h0]at he
     replace he:iN env x=some (.jl id n ag):=he
     split at h;rename_i t1 t2 t3;simp only[af]at t2;obtain⟨u,t2,t6⟩:=t2;obtain⟨d9,t4,t5⟩:=bt hR.env t2;rw[he]at t4;cases t4;have t7:=cK (tt:=tt) (t:=t) t5;rw[t6]at t7;simp only[RT]at t7;cases h;cases h;cases h
    cases e:(args[0]?).bind (iN env)with
    |none=>simp only[aH,ho,dN,e,h1,az,gH,mO,if_neg key.1,C3,aJ,if_false]
    |some da=>
     cases da with
     |sl rows tok f=>cases tok<;>simp only[aH,ho,dN,e,h1,az,gH,mO,if_neg key.1,C3,aJ,if_false]
     |jl id n ag=>exact absurd e (key.2 id n ag)
     |_=>simp only[aH,ho,dN,e,h1,az,gH,mO,if_neg key.1,C3,aJ,if_false]
   |_=>simp only[aH,ho,h1,az,gH,mO]
  |value f=>simp only[stepT,bJ,ho,lg]at h;cases h
  |_=>simp only[aH,ho,h1,az,gH,mO]
 |_=>simp only[aH,ho,h1,az,gH,mO]
def WL(P:Program)(ty:fo)(aD:bR)(call:aY)(yf:di)(B:cx)(ops:Array Oper)(k:Nat)(te:cn)(tS:cp)(Q:cn->cp->Prop):Prop:=
 ∀ι env S,bL ι te tS env S->nM B tS->∃aK S' ι' bO bI,Hr P ty aD call yf ops (ops.toList.drop k) env S=some (aK,S')/\bL ι' bO bI aK S'/\nM B bI/\Fr B ι S ι' S'/\Nn S.length S S'/\Q bO bI
theorem Mz(h:bL ι te tS env S):∃w,Yd ι w:=by refine⟨λk'=>(Classical.epsilon λo:Option Nat=>∀k,ι k=some k'->o=some k),λk k' hk=>?_⟩;have:∃o:Option Nat,∀j,ι j=some k'->o=some j:=⟨some k,λj hj=>congrArg some (h.inj _ _ _ hk hj)⟩;exact Classical.epsilon_spec this k hk
theorem tT{wq:aj}(h:Nn S.length S S')(k:Nn S'.length S' wq):Nn S.length S wq:=by refine⟨bz h.1 k.1,λj hj hn=>?_⟩;have h1:=h.2 j hj hn;have:=(aI.1 h1).1;exact k.2 j U h1
theorem nO(h:bL ι te tS env S){v:TV}{d:DV}(hv:RT ι S v d)(dst:Option Tmp):bL ι (jI te dst v) tS (jN env dst d) S:=⟨adv h.env hv dst,h.cells,h.own,h.qc,h.inj,h.mp⟩
theorem nS{k:Nat}(ho:ops[k]? =some o):ops.toList.drop k=o::ops.toList.drop (k+1):=by
 have h:ops.toList[k]? =some o:=by simpa using ho
 obtain⟨hk,rfl⟩:=aI.1 h;exact rS hk
theorem ac6{k:Nat}(hk:ops.size<=k){Q:cn->cp->Prop}(h:Q te tS):WL P ty aD call yf B ops k te tS Q:=by intro ι env S hR hB;rw[jy (by simpa using hk)];exact⟨env,S,ι,te,tS,rfl,hR,hB,Fr.refl _ _ _,fM _ _,h⟩
theorem Zy{k:Nat}(ho:ops[k]? =some o)(hw:dI ops te o=some false){Q:cn->cp->Prop}
  (h:WL P ty aD call yf B ops (k+1) (jI te o.dst Qx) tS Q):WL P ty aD call yf B ops k te tS Q:=by
 intro ι env S hR hB;obtain⟨aK,wq,ι'',s5,s6,k1,k2,k3,k4,k5,k6⟩:=h ι (jN env o.dst bD) S (nO hR MC _) hB;refine⟨aK,wq,ι'',s5,s6,?_,k2,k3,k4,k5,k6⟩;rw[nS ho];simp only[Hr,gW hR.env hw,aJ,if_false,k1]
theorem LO{k:Nat}{r:List Oper}(h:ops.toList.drop k=o::r):ops[k]? =some o/\r=ops.toList.drop (k+1):=by
 have h1:ops.toList[k]? =some o:=by have:=congrArg (·[0]?) h;simpa using this
 refine⟨by simpa using h1,?_⟩;have:=congrArg List.tail h;simpa using this.symm
end
end Go.Tv
