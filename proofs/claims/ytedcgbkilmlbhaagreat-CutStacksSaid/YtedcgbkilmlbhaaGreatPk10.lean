import Derived.Test.YtedcgbkilmlbhaaGreatPk09
namespace Go.Tv
open Go Go.Di Go.Proofs
theorem wJ{b:Bool}{A B:Prop}(h:aB b A B):(b=true->A)/\(b=false->B):=by cases b<;>exact⟨λe=>by cases e<;>exact h,λe=>by cases e<;>exact h⟩
theorem iq{b:Bool}{A:Prop}(h:aB b A False):b=true/\A:=by cases b;exact h.elim;exact⟨rfl,h⟩
theorem lZ:∀{l:List Prop},dA l↔∀p∈l,p
 |[]=>by simp[dA]
 |p::l=>by have:=lZ (l:=l);simp only[dA,this,bE,forall_eq_or_imp]
theorem jd:∀{l:List Prop}{R:Prop},AY l R->dA l/\R
 |[],_,h=>⟨trivial,h⟩
 |p::l,R,h=>by obtain⟨h1,h2⟩:=jd h.2;exact⟨lZ.2 (by rintro q hq;rcases bE.1 hq with rfl|hq;exact h.1;exact lZ.1 h1 q hq),h2⟩
theorem ku{l m:List Prop}(h:dA (l++m)):dA l/\dA m:=by rw[lZ]at h;exact⟨lZ.2 λp hp=>h p (ry _ hp),lZ.2 λp hp=>h p (List.mem_append_right _ hp)⟩
theorem ny:∀{l:List Prop}{R:Prop},impl l R->dA l->R
 |[],_,h,_=>h
 |p::l,R,h,k=>by rw[lZ]at k;exact ny (h (k p (iz ..))) (lZ.2 λq hq=>k q (pF _ hq))
theorem iX{o:Option (List Prop)}{K:Prop}(h:ask o K):∃l,o=some l/\dA l/\K:=by
 cases o with
 |none=>exact h.elim
 |some l=>exact⟨l,rfl,jd h⟩
theorem IG{R K:TV->cp->List Prop->Prop}:∀{s:uk},s.all R->s.some K->∃v cs fs,R v cs fs/\K v cs fs
 |.ex _ _,h,⟨x,k⟩=>IG (h x) k
 |.res v cs fs,h,k=>⟨v,cs,fs,h,k⟩
theorem H6{R:TV->cp->Prop}{v:TV}{cs:cp}{s:uk}(h:s.all λv cs fs=>impl fs (R v cs))(k:s.holds v cs):R v cs:=by obtain⟨v',iZ,fs,h,rfl,rfl,hf⟩:=IG h k;exact ny h hf
theorem Fu{R:TV->Prop}{v:TV}{s:uk}(h:s.all λv _ fs=>impl fs (R v))(k:s.oI v):R v:=by obtain⟨v',iZ,fs,h,rfl,hf⟩:=IG h k;exact ny h hf
theorem Ph{R:cp->Prop}{cs:cp}{s:uk}(h:s.all λ_ cs fs=>impl fs (R cs))(k:s.A8 cs):R cs:=by obtain⟨v',iZ,fs,h,rfl,hf⟩:=IG h k;exact ny h hf
mutual
theorem gL:∀(v:TV){K:TV->Prop},gI v K->K v
 |.unk,_,h=>h
 |.val v,_,h=>by cases v<;>exact h
 |.ax,_,h=>h
 |.agg l,K,h=>by simp only[gI]at h;exact cv l (K:=λl=>K (.agg l)) h
 |.tup l,K,h=>by simp only[gI]at h;exact cv l (K:=λl=>K (.tup l)) h
 |.sl _ _ _,_,h=>h
 |.ptr _ _,_,h=>h
 |.fM _ _ _ _,_,h=>h
 |.mp _,_,h=>h
 |.so _ _,_,h=>h
 |.sp _ _ _ _,_,h=>h
 |.oz k fn te,K,h=>by simp only[gI]at h;exact cv te (K:=λte=>K (.oz k fn te)) h
 |.fn f a b,K,h=>by simp only[gI]at h;exact cv b (K:=λb=>K (.fn f a b)) (cv a (K:=λa=>dx b λb=>K (.fn f a b)) h)
theorem cv:∀(l:cp){K:cp->Prop},dx l K->K l
 |[],_,h=>h
 |a::l,K,h=>by have h1:=gL a (K:=λa=>match rL a with|true=>K (a::l)|false=>dx l λl=>K (a::l)) (by simp only[dx]at h;exact h);split at h1;exact h1;exact cv l (K:=λl=>K (a::l)) h1
end
theorem cN:∀(l:cx){K:cx->Prop},ck l K->K l
 |[],_,h=>h
 |.cells c::l,K,h=>cN l (K:=λl=>K (.cells c::l)) (cv c (K:=λc=>ck l λl=>K (.cells c::l)) h)
 |.none::l,K,h=>cN l (K:=λl=>K (.none::l)) h
 |.loop::l,K,h=>cN l (K:=λl=>K (.loop::l)) h
 |.own e s::l,K,h=>cN l (K:=λl=>K (.own e s::l)) h
 |.map kt c::l,K,h=>cN l (K:=λl=>K (.map kt c::l)) h
 |.rows t e c z::l,K,h=>cN l (K:=λl=>K (.rows t e c z::l)) h
theorem qS:∀(l:cp)(n:Nat)(v:TV){K:cp->Prop},FR l n v K->K (l.set n v)
 |[],_,_,_,h=>h
 |_::_,0,_,_,h=>h
 |a::l,n+1,v,K,h=>qS l n v (K:=λl=>K (a::l)) h
theorem fo{te:cp}{dst:Option Tmp}{v:TV}{K:cp->Prop}(h:gB te dst v K):K (kC te dst v):=by
 cases dst with
 |none=>exact h
 |some d=>exact qS te d v h
theorem ql:∀{l:cp}{n:Nat}{v:TV},l[n]? =some v->l.set n v=l
 |[],_,_,h=>by simp at h
 |_::_,0,_,h=>by simp only[eu,aG]at h;rw[h];rfl
 |a::l,n+1,v,h=>by rw[List.set_cons_succ,ql (l:=l) (by simpa using h)]
mutual
theorem x8:∀{a b:TV}{l:List Prop},Zy a b=some l->dA l->a=b
 |a,b,l,h,k=>by
  unfold Zy at h;split at h;rfl;split at h;rename_i hk;subst hk;cases h;rw[show _=_ from k.1];cases h;cases h;rw[show _=_ from k.1]
  cases h;rw[show _=_ from k.1]
  rfl;rw[tf h k];rw[tf h k];split at h;rename_i ht;subst ht;cases h;cases(show _=_ from k.1);rfl
  cases h;split at h;rename_i ht;subst ht;cases h;cases(show _=_ from k.1);rfl
  cases h;split at h;rename_i ht;subst ht;split at h;rename_i hg;subst hg;cases h;cases(show _=_ from k.1);rfl
  cases h;cases h;split at h;rename_i ht;subst ht;split at h;rename_i hb;subst hb;cases h;cases(show _=_ from k.1);rfl;cases h;cases h
  grind
  grind
  split at h;rename_i ht;obtain⟨rfl,rfl⟩:=ht;rw[tf h k]
  cases h
  grind
  split at h;rename_i ht;subst ht;cases h;obtain⟨k1,k2,k3⟩:=k;cases(show _=_ from k1);cases(show _=_ from k2);cases(show _=_ from k3.1);rfl
  cases h;split at h;rename_i hf;subst hf;split at h;rename_i x y h1 h2;cases h;obtain⟨k1,k2⟩:=ku k;rw[tf h1 k1,tf h2 k2];cases h;cases h;cases h
theorem tf:∀{a b:cp}{l:List Prop},R2 a b=some l->dA l->a=b
 |[],[],_,_,_=>rfl
 |a::l,b::m,_,h,k=>by simp only[R2]at h;split at h;simp only[ah]at h;obtain⟨x,h1,rfl⟩:=h;obtain⟨k1,k2⟩:=ku k;rw[x8 h1 k1,(show l=m from k2.1)];split at h;rename_i x y h1 h2;cases h;obtain⟨k1,k2⟩:=ku k;rw[x8 h1 k1,tf h2 k2];cases h
 |[],_::_,_,h,_=>by simp[R2]at h
 |_::_,[],_,h,_=>by simp[R2]at h
end
def LeV(u v:TV):Prop:=∀l m,jY l m->jY (u::l) (v::m)
mutual
theorem IV:∀{v u:TV}{l:List Prop},leT v u=some l->dA l->LeV u v
 |v,u,l,h,k=>by unfold leT at h;split at h;exactλ_ _=>.unk;split at h;rename_i ht;subst ht;cases h;cases(show _=_ from k.1);exactλ_ _=>.no;cases h;split at h;rename_i ht;subst ht;cases h;cases(show _=_ from k.1);exactλ_ _=>.stop;cases h;split at h;split at h;rename_i ht;subst ht;cases h;cases(show _=_ from k.1);exactλ_ _=>.iT;cases h;cases h;cases h;cases(show _=_ from k.1);exactλ_ _=>.ax;rename_i a b;have:=zg h k;exactλ_ _=>.agg this;rw[x8 h k];exactλ_ _=>.same
theorem zg:∀{v u:cp}{l:List Prop},Ip v u=some l->dA l->jY u v
 |[],[],_,_,_=>.nil
 |a::l,b::m,_,h,k=>by simp only[Ip]at h;split at h;simp only[ah]at h;obtain⟨x,h1,rfl⟩:=h;obtain⟨k1,k2⟩:=ku k;exact IV h1 k1 _ _ k2.1;split at h;rename_i x y h1 h2;cases h;obtain⟨k1,k2⟩:=ku k;exact IV h1 k1 _ _ (zg h2 k2);cases h
 |[],_::_,_,h,_=>by simp[Ip]at h
 |_::_,[],_,h,_=>by simp[Ip]at h
end
theorem abY:∀{v u:cx}{l:List Prop},rH v u=some l->dA l->CL u v
 |v,u,l,h,k=>by
  induction u generalizing v l with
  |nil=>exact .nil
  |cons b m ih=>
   cases v with
   |nil=>
    cases b with
    |own e s=>exact .new (ih _ _ h k)
    |_=>simp[rH]at h
   |cons a v=>
    cases b with
    |none=>exact .none (ih _ _ (by simpa [rH]using h) k)
    |loop=>
     cases a with
     |loop=>exact .loop (ih _ _ (by simpa [rH]using h) k)
     |_=>simp[rH]at h
    |cells c=>
     cases a with
     |cells d=>simp only[rH]at h;split at h;rename_i x y h1 h2;cases h;obtain⟨k1,k2⟩:=ku k;exact .cells (zg h1 k1) (ih _ _ h2 k2);cases h
     |_=>simp[rH]at h
    |own e s=>
     cases a with
     |own e' s'=>simp only[rH]at h;split at h;rename_i he;obtain⟨rfl,rfl⟩:=he;exact .own (ih _ _ h k);cases h
     |_=>simp[rH]at h
    |map kt c=>
     cases a with
     |map kt' c'=>simp only[rH]at h;split at h;rename_i he;subst he;split at h;rename_i y h2;cases h;obtain⟨k1,k2⟩:=k;cases(show _=_ from k1);exact .map (ih _ _ h2 k2);cases h;cases h
     |_=>simp[rH]at h
    |rows t e c z=>
     cases a with
     |rows t' e' c' z'=>simp only[rH]at h;split at h;rename_i he;subst he;split at h;rename_i hez;obtain⟨rfl,rfl⟩:=hez;split at h;rename_i y h2;cases h;obtain⟨k1,k2⟩:=k;cases(show _=_ from k1);exact .rows (ih _ _ h2 k2);cases h;cases h;cases h
     |_=>simp[rH]at h
theorem Ac{sl:List (Nat×TV)}{keep:Nat}:∀{i:Nat}{te:cp}{l:List Prop},xx sl i te=some l->dA l->jY (oP sl keep i te) te
 |_,[],_,_,_=>.nil
 |i,v::te,l,h,k=>by simp only[xx]at h;simp only[oP];split at h;rename_i p hp;split at h;rename_i x y h1 h2;cases h;obtain⟨k1,k2⟩:=ku k;exact IV h1 k1 _ _ (Ac h2 k2);cases h;rename_i hp;split;exact .same (Ac h k);exact .unk (Ac h k)
theorem ja{pl:List (Nat×cp)}{mp:MpL}{own:List (Nat×Nat)}:∀{i:Nat}{tS:cx}{l:List Prop},jI pl mp i tS=some l->dA l->CL (uW pl mp i tS++own.map λp=>TB.own p.1 p.2) tS
 |_,[],_,_,_=>Me own
 |i,.none::tS,l,h,k=>by simp only[jI]at h;exact .none (ja h k)
 |i,.loop::tS,l,h,k=>by simp only[jI]at h;exact .loop (ja h k)
 |i,.own _ _::tS,l,h,k=>by simp only[jI]at h;exact .own (ja h k)
 |i,.cells c::tS,l,h,k=>by simp only[jI]at h;simp only[uW,pq];split at h;rename_i p hp;split at h;rename_i x y h1 h2;cases h;obtain⟨k1,k2⟩:=ku k;exact .cells (zg h1 k1) (ja h2 k2);cases h;exact .cells (jY.refl c) (ja h k)
 |i,.map kt c::tS,l,h,k=>by simp only[jI]at h;simp only[uW,pq];split at h;rename_i a kt' c' hp;split at h;rename_i he;subst he;split at h;rename_i y h2;cases h;obtain⟨k1,k2⟩:=k;cases(show c=c' from k1);exact .map (ja h2 k2);cases h;cases h;exact .map (ja h k)
 |i,.rows kt e c z::tS,l,h,k=>by simp only[jI]at h;simp only[uW,pq];split at h;rename_i a kt' c' hp;split at h;rename_i he;subst he;split at h;rename_i y h2;cases h;obtain⟨k1,k2⟩:=k;cases(show c=c' from k1);exact .rows (ja h2 k2);cases h;cases h;exact .rows (ja h k)
variable {P:Program} {ty:gb} {tt:TypeId->cJ} {T:eM} {ι ι' w:lp} {S S':ai} {te mV:cp} {env:cj} {tS iS:cx} {aI:b9} {call:bG} {yf:ez} {o:Oper} {aC nT:Nat} {B:cy} {r:TR} {ops:Array Oper} {L:Nat} {fn:FuncId} {jg:Bool}
theorem Pg{v:TV}{c:Prop}(h:Ec te o=some (v,c))(hc:c):bX P ty tt te tS o=some (v,True):=by
 unfold Ec at h;split at h;rename_i t x y _ ho;split at h;rename_i a b h1 h2;cases h;have:jC P (do eqGuard .add t x y (.int .i64 a) (.int .i64 b);binOp .add t (.int .i64 a) (.int .i64 b))=some (.val (.int .i64 (IntKind.i64.wrap (a+b)))):=rfl;simp only[bX,ho,h1,h2,dc,iM,this,xP,az,D1 hc.1 hc.2];cases h;rename_i t x y _ ho;split at h;rename_i a b h1 h2;cases h;have:jC P (do eqGuard .sub t x y (.int .i64 a) (.int .i64 b);binOp .sub t (.int .i64 a) (.int .i64 b))=some (.val (.int .i64 (IntKind.i64.wrap (a-b)))):=rfl;simp only[bX,ho,h1,h2,dc,iM,this,xP,az,D1 hc.1 hc.2];cases h;rename_i t x y _ ho;split at h;rename_i a b h1 h2;cases h;have:jC P (do eqGuard .mul t x y (.int .i64 a) (.int .i64 b);binOp .mul t (.int .i64 a) (.int .i64 b))=some (.val (.int .i64 (IntKind.i64.wrap (a*b)))):=rfl;simp only[bX,ho,h1,h2,dc,iM,this,xP,az,D1 hc.1 hc.2];cases h;rename_i t x ho;split at h;rename_i a h1;cases h;have:jC P (Op.unary .neg (.int .i64 a))=some (.val (.int .i64 (IntKind.i64.wrap (-a)))):=by rw[<-Int.zero_sub];rfl
 simp only[bX,ho,h1,dc,iM,this,xP,az,D1 hc.1 hc.2];cases h;rename_i t x y _ ho;split at h;rename_i a b h1 h2;cases h;have:jC P (do eqGuard .and t x y (.int .i64 a) (.int .i64 b);binOp .and t (.int .i64 a) (.int .i64 b))=some (.val (.int .i64 (aha a b))):=by cases a<;>rfl
 simp only[bX,ho,h1,h2,dc,iM,this,xP,az];cases h;cases h
theorem acv{t:TypeId}{xs ys:Array Value}{b:Bool}(ht:P.underlying t=some (.struct (P.fieldsOf t)))(hp:P.stoodInHeld t=false)(hm:P.eqGuardType P.depth t=false)(hf:cZ P (Op.eqFields 9999 xs ys (P.fieldsOf t).toList)=some b)(x y:Operand):
  jC P (do eqGuard .eql t x y (.agg xs) (.agg ys);binOp .eql t (.agg xs) (.agg ys))=some (.val (.bool b)):=by
 have h1:cZ P (eqGuard .eql t x y (.agg xs) (.agg ys))=some ():=by simp only[eqGuard];simp only[gQ,aK,if_false,eZ,nW,dc,hm,zA,if_true];rfl
 have h2:cZ P (binOp .eql t (.agg xs) (.agg ys))=some (.bool b):=by simp only[binOp,eZ,Op.equal,Op.maxDepth,uc 9999 t xs ys ht hp,hf,dc];rfl
 rw[jC,eZ,h1,dc,h2];rfl
theorem Rr{xs ys:Array Value}{fs:List Field}{b:Bool}(h:aey P xs ys fs=some b):cZ P (Op.eqFields 9999 xs ys fs)=some b:=EK (λ_ _ _ _ h=>Xc ab h) h
theorem Zb{b:Bool}(h:Vr P te o=some b):bX P ty tt te tS o=some (.val (.bool b),True):=by unfold Vr at h;split at h;rename_i t x y _ ho;split at h;rename_i xs ys h1 h2;split at h;rename_i fs h3 h4 h5;simp only[ah]at h;obtain⟨r,h6,rfl⟩:=h;have e:=acu (P:=P) (tY h3) h4 h5 (b:=r) (by simp only[Program.fieldsOf,h3];exact Rr h6) x y;simp only[bX,ho,h1,h2,e,xP,az];cases h;cases h;rename_i t x y _ ho;split at h;rename_i xs ys h1 h2;split at h;rename_i fs h3 h4 h5;have e:=acv (P:=P) (tY h3) h4 h5 (b:=b) (by simp only[Program.fieldsOf,h3];exact Rr h) x y;simp only[bX,ho,h1,h2,e,xP,az];cases h;cases h;cases h
end Go.Tv
namespace Go.Tv
open Go Go.Di Go.Proofs
variable {P:Program} {ty:gb} {tt:TypeId->cJ} {T:eM} {ι ι' w:lp} {S S':ai} {te mV:cp} {env:cj} {tS iS:cx} {aI:b9} {call:bG} {yf:ez} {o:Oper} {aC nT:Nat} {B:cy} {r:TR} {ops:Array Oper} {L:Nat} {fn:FuncId} {jg:Bool} {fs:cY}
theorem Pn{md:Nat}(h:md<=2):md=0\/md=1\/md=2:=ab
theorem YI{α β:Type}{x:Option α}{f:α->β}{q:β×Prop}(h:x.map (λa=>(f a,True))=some q):q.2:=by simp only[ah]at h;obtain⟨_,_,rfl⟩:=h;trivial
theorem LY{q:TV×Prop}(hc:Bb o=false)(h:bX P ty tt te tS o=some q):q.2:=by
 unfold Bb at hc;unfold bX at h;cases ho:o.op;all_goals simp only[ho]at hc h
 all_goals try(cases hc;done)
 all_goals repeat' (split at h)
 all_goals first
  |(cases h;done)
  |(cases h;trivial)
  |exact YI h
  |(simp only[ah]at h;obtain⟨_,_,rfl⟩:=h;trivial)
theorem YC{q:TR}(hc:Bb o=false)(h:stepT P ty tt te tS o nT=some q):q.c:=by
 have hp:∀{q:TR},((bX P ty tt te tS o).map λr=>(⟨r.1,te,tS,lJ te o,r.2⟩:TR))=some q->q.c:=by intro q h;simp only[ah]at h;obtain⟨a,h1,rfl⟩:=h;exact LY hc h1
 unfold stepT at h;split at h
 grind
 grind
 split at h;split at h;split at h;simp only[ah]at h;obtain⟨_,_,rfl⟩:=h;trivial;cases h;cases h;cases h;rename_i ho;simp only[Bb,ho]at hc;cases hc;exact hp h
def Nb(o:Oper):Prop:=(∃op t x y u,o.op=.binOp op t x y u)\/∃op t x,o.op=.unOp op t x
theorem Am{v:TV}(hb:Nb o)(h:bX P ty tt te tS o=some (v,True)):stepT P ty tt te tS o nT=some ⟨v,te,tS,[],True⟩:=by rcases hb with ⟨op,t,x,y,u,ho⟩|⟨op,t,x,ho⟩<;>simp only[stepT,ho,h,az,lJ]
theorem Uj{v:TV}{c:Prop}(h:Ec te o=some (v,c)):Nb o:=by
 unfold Ec at h;split at h;rename_i ho;exact .inl ⟨_,_,_,_,_,ho⟩
 rename_i ho;exact .inl ⟨_,_,_,_,_,ho⟩
 rename_i ho;exact .inl ⟨_,_,_,_,_,ho⟩
 rename_i ho;exact .inr ⟨_,_,_,ho⟩
 rename_i ho;exact .inl ⟨_,_,_,_,_,ho⟩
 cases h
theorem acw{b:Bool}(h:Vr P te o=some b):Nb o:=by
 unfold Vr at h;split at h;rename_i ho;exact .inl ⟨_,_,_,_,_,ho⟩
 rename_i ho;exact .inl ⟨_,_,_,_,_,ho⟩
 cases h
theorem agp(hb:Nb o):nZ o=false:=by rcases hb with ⟨op,t,x,y,u,ho⟩|⟨op,t,x,ho⟩<;>simp only[nZ,ho]
theorem Mx{g:FuncId}{targs:cp}(h:PU tt te o=some (g,targs)):∃f args argTypes fs cs xs,o.op=.call {callee:=.value f,args,argTypes}/\fT te f=some (.fn g fs cs)/\mj te args.toList=some xs/\(fs++xs++cs).all eV=true/\bR (gu tt fs argTypes) (fs++xs++cs)=targs:=by
 unfold PU at h;split at h
 grind
 cases h
theorem Tg{g:FuncId}{kp:Nat}{targs ts:cp}(h:N8 tt te tS o=some (g,kp,targs,ts)):∃f args argTypes fs cs xs,o.op=.call {callee:=.value f,args,argTypes}/\fT te f=some (.fn g fs cs)/\mj te args.toList=some xs/\y7 kp (gu tt fs argTypes) (fs++xs++cs)=some targs/\(fs++xs++cs).any isRef=true/\tS[kp]? =some (.cells ts)/\fE ts=[]:=by
 unfold N8 at h;split at h
 grind
 cases h
theorem Ti{g:FuncId}{kp:Nat}{targs ts:cp}(h:N9 tt te tS o=some (g,kp,targs,ts)):∃f args argTypes fs cs xs off rest,o.op=.call {callee:=.value f,args,argTypes}/\fT te f=some (.fn g fs cs)/\mj te args.toList=some xs/\fs++xs++cs=.ptr kp off::rest/\rest.all eV=true/\tS[kp]? =some (.cells ts)/\ts.all kX=true/\targs=.ptr 0 off::bR (gu tt fs argTypes).tail rest:=by
 unfold N9 at h;split at h
 grind
 cases h
theorem Mp{md:Nat}{v:TV}{cs:cp}{K:Prop}(h:K0 md v cs K):(md=2->B8 v=true/\cs.all kX=true)/\K:=by
 unfold K0 at h;split at h
 grind
 grind
def wI(call:bG)(g:FuncId)(A:cp)(tS:cx)(K:TV->cx->Prop):Prop:=
 ∀ι bO S,bZ ι A tS bO S->∃d S' ι' v bU,call g bO S=some (d,S')/\bZ ι' [v] bU [d] S'/\oT (dR 0 tS) bU/\Fr (dR 0 tS) ι S ι' S'/\Nn S.length S S'/\K v bU
theorem Y6{f:Operand}{args:Array Operand}{argTypes:Array TypeId}{g:FuncId}{fs cs xs:cp}{K:TV->cx->Prop}(hop:o.op=.call {callee:=.value f,args,argTypes})(hf:fT te f=some (.fn g fs cs))(ha:mj te args.toList=some xs)(hr:(fs++xs++cs).any isRef=true\/ty.h o=1)
  (hc:wI call g (fs++xs++cs) tS K):Does P ty aI call yf B o nT te tS false λv cr bU _=>cr=gn tS te/\K v bU:=by
 intro ι w env S aC hR hB hw hT Dw hS;obtain⟨xL,iZ,Gb,k1,k2,k3⟩:=iR hR.env hf ha;obtain⟨d,S',ι',v,bU,m1,m2,m3,m4,m5,m6⟩:=hc ι _ S ⟨k3,hR.cells,hR.own,hR.qB,hR.inj,hR.mp⟩;obtain⟨w',hw'⟩:=NT m2;obtain⟨_,_,e,m7,-⟩:=aj m2.env;cases e;have Iu:∀k,k∈B->k∈dR 0 tS:=λk hk=>by obtain⟨l,h1⟩:=hB k hk;exact sE h1
 refine⟨d,S',ι',w',v,gn tS te,bU,⟨none,true⟩,⟨none,true⟩,λ_=>?_,λe=>ar,⟨λe=>e,λl hl=>aE⟩,λl m hl=>aE,⟨ko (λk hk=>?_) _ _ hR.env,m2.cells,m2.own,m2.qB,m2.inj,m2.mp⟩,m7,hw',λe=>ar,⟨m4.rest,m4.ours,λk hk=>m4.base k (Iu k hk)⟩,λk hk=>m3 k (Iu k hk),⟨m5.1,λj hj eL=>m5.2 j (by have:=(aM.1 eL).1;omega) eL⟩,rfl,m6⟩;rcases hr with hr|hr;have:=nC hr k3;simp only[af,hop,k1,k2,xz,this,aK,if_false,m1];split<;>rfl;simp only[af,hop,k1,k2,hr,m1];unfold j5 at hk;split at hk;rename_i c hc;exact m4.base k (Mg hc)
 cases hk
theorem ab5{md:Nat}{A:cp}{fn:Func}{j:List (Nat×LA)}(h:ad6 ty T md te o=some (A,fn,j)):md=0/\∃f args argTypes g fs cs xs,o.op=.call {callee:=.value f,args,argTypes}/\fT te f=some (.fn g fs cs)/\mj te args.toList=some xs/\((fs++xs++cs).any isRef=true\/ty.h o=1)/\A=fs++xs++cs/\T.X g=some (fn,j):=by
 unfold ad6 at h;split at h;split at h;rename_i g A' h1;split at h;rename_i vV j' h2;cases h;unfold agG at h1;split at h1
 grind
 cases h1;cases h;cases h;cases h
theorem sD{b:Bool}{c:Prop}(h:ad1 ty te o=some (b,c))(hc:c):(∃op t x y u,o.op=.binOp op t x y u)/\∀{env:cj},cO ι S te env->∀aC,af P ty aI call yf (jA env) o S aC=some (.val (.bool b),S):=by
 unfold ad1 at h;split at h;rename_i t x y _ ho;refine⟨⟨_,_,_,_,_,ho⟩,λ{env} hE aC=>?_⟩;split at h;rename_i h1 h2 h3;cases h;obtain⟨d1,k1,k2⟩:=bL hE h2;obtain⟨d2,k3,k4⟩:=bL hE h3;cases d1<;>simp only[RT]at k2;cases d2<;>simp only[RT]at k4;obtain⟨rfl,rfl,rfl⟩:=k4;rename_i rows tok f;have hr:rows.isEmpty=false:=by
  have:=kZ k2.1;cases rows with
  |nil=>exact absurd (eR (by simpa using this.symm)) hc
  |cons=>rfl
 simp only[af,ho,valOf,k1,k3,dc,BT,D6,h1,ND,hr,aK,if_false,az];rename_i h1 h2 h3;cases h;obtain⟨d1,k1,k2⟩:=bL hE h2;obtain⟨d2,k3,k4⟩:=bL hE h3;cases d1<;>simp only[RT]at k2;cases d2<;>simp only[RT]at k4;obtain⟨rfl,rfl,rfl⟩:=k4;obtain⟨rfl,rfl,rfl⟩:=k2;simp only[af,ho,valOf,k1,k3,dc,BT,D6,h1,ND,List.isEmpty_nil,if_true,az];cases h;cases h
theorem Mr{b:Value}(hb:∃op t x y u,o.op=.binOp op t x y u)(h:∀{ι:lp}{S:ai}{env:cj},cO ι S te env->∀aC,af P ty aI call yf (jA env) o S aC=some (.val b,S))(dr:Bool):Does P ty aI call yf B o nT te tS dr λv cr bU ft=>v=.val b/\cr=te/\bU=tS/\ft=⟨some [],false⟩:=by intro ι w env S aC hR hB hw hT hn hS;obtain⟨op,t,x,y,u,ho⟩:=hb;refine⟨.val b,S,ι,w,.val b,te,tS,⟨some [],false⟩,⟨some [],false⟩,λ_=>h hR.env aC,λ_=>?_,⟨id,λl hl=>⟨[],rfl,λj hj=>(by cases hj)⟩⟩,λl m _ hm j hj=>(by cases hm;cases hj),hR,by simp only[RT],hw,λ_ _ _=>rfl,Fr.refl _ _ _,hB,gA _ _,rfl,rfl,rfl,rfl⟩;have:=h hR.env aC;simp only[aJ,ho];rw[this];rfl
theorem afc{k:Nat}{b:Value}{Q:cp->Prop}(ho:ops[k]? =some o)(hw:eE ops te o=some true)(hb:∃op t x y u,o.op=.binOp op t x y u)(h:∀{ι:lp}{S:ai}{env:cj},cO ι S te env->∀aC,af P ty aI call yf (jA env) o S aC=some (.val b,S))(hq:WQ P ty aI call yf ops tS (k+1) (kC te o.dst (.val b)) Q):WQ P ty aI call yf ops tS k te Q:=by
 intro ι env S hR;obtain⟨aL,cr,n1,n2,n3⟩:=hq ι (kH env o.dst (.val b)) S (oZ hR (by simp only[RT]) _);refine⟨aL,cr,?_,n2,n3⟩;rw[o9 ho];have hs:=h hR.env S.length;obtain⟨op,t,x,y,u,hop⟩:=hb;have hq:dO P ty aI call yf (jA env) o S=some (.val b):=by simp only[dO,hop];rw[hs];rfl
 simp only[rF,iP hR.env hw,if_true,hq,n1]
def xN(P:Program)(ty:gb)(aI:b9)(call:bG)(yf:ez)(B:cy)(ops:Array Oper)(Q:cp->cx->Prop)(md:Nat)(nG:cx)(k:Nat)(te:cp)(tS:cx)(fs:cY):Prop:=
 match md with
 |0=>WL P ty aI call yf B ops k te tS Q
 |1=>tS=nG->WQ P ty aI call yf ops nG k te λte=>Q te nG
 |_=>WD P ty aI call yf B ops k te tS fs Q
theorem Jj{Q:cp->cx->Prop}{md k:Nat}{nG:cx}(qJ:md<=2)(ho:ops[k]? =some o)(hw:eE ops te o=some false){K:KO}(hK:∀te tS fs,K te tS fs->xN P ty aI call yf B ops Q md nG (k+1) te tS fs)(h:PB o te tS fs K):xN P ty aI call yf B ops Q md nG k te tS fs:=by have h1:=hK _ _ _ (fo (K:=λte=>K te tS (fs++[gH])) h);rcases Pn qJ with rfl|rfl|rfl;exact aaV ho hw h1;exactλe=>aaU ho hw (h1 e);exact aa1 ho hw h1
variable {inl:Inl}
structure xC (P:Program) (ty:gb) (call:bG) (yf:ez) (T:eM) (inl:Inl):Prop where
 c:∀g fn j A tS (K:TV->cx->Prop),T.X g=some (fn,j)->inl.c fn j A tS K->wI call g A tS K
 y:∀k s5 AB xs tS (K:cx->Prop),inl.y k s5 AB xs tS K->∃ps oS body Iq y6 ZH,CO s5=some (ps,oS,body)/\yf=vk P ty Iq y6 ZH LL/\xs.length=ps.length/\(fE (oL AB (ps.zip xs))++oM tS).contains k=false/\WT P ty Iq y6 ZH (oG k tS) LL s5 true oS (oL AB (ps.zip xs)) (tS.set k .none) λe mV iS=>e=.normal/\WT P ty Iq y6 ZH (oG k tS) LL s5 true body mV iS λe _ jW=>e=.normal/\jW[k]? =some .none/\K jW
theorem aaN{md k:Nat}{s5:FuncId}{AB xs:cp}(h:adN md te tS o=some (k,s5,AB,xs)):md≠1/\∃f args argTypes,o.op=.call {callee:=.value f,args,argTypes}/\fT te f=some (.oz k s5 AB)/\mj te args.toList=some xs/\tS[k]? =some .loop:=by
 unfold adN at h;split at h
 grind
 cases h
def NR(ty:gb)(md:Nat)(o:Oper)(uL:cp)(uD:cx)(te:cp)(tS:cx):Prop:=
 match md with
 |0=>Nz ty uL uD o=some (te,tS)
 |_=>uL=te/\uD=tS
theorem L6(hT:qP T aI call){Q:cp->cx->Prop}{md n0 k:Nat}{nG uD:cx}{uL:cp}(qJ:md<=2)(ho:ops[k]? =some o)(hw:eE ops uL o=some true)(nY:NR ty md o uL uD te tS){K:KO}(hK:∀te tS fs,K te tS fs->xN P ty aI call yf B ops Q md nG (k+1) te tS fs)
  (hn:AR tS (oE md n0 k tS)=true) (hh:md=0\/ty.h o≠1) (h:IU tt T md o te tS fs K):xN P ty aI call yf B ops Q md nG k uL uD fs:=by
 unfold IU at h;split at h;rename_i g L targs tP hc;obtain⟨f,args,argTypes,fs1,cs1,xs,c1,c2,c3,c4,c5,c6,c7,c8,c9,c10⟩:=TL (tt:=tt) hc;split at h;rename_i p s hm hs;obtain⟨hp,h⟩:=jd h;have hsp:=hT.M _ _ _ _ _ hs hp;have all:∀v t,s.holds v (t.map .agg)->∃tB,Im L t=some tB/\xN P ty aI call yf B ops Q md nG (k+1) (kC te o.dst v) (yM L tB tS) (fs++[GG md L]):=λv t hv=>by
  have h1:=H6 (R:=λv cs=>aeE L cs λtB=>gI v λv=>gB te o.dst v λte=>ck (yM L tB tS) λtS=>K te tS (fs++[GG md L])) h hv;unfold aeE at h1;rw[GM]at h1;simp only at h1;split at h1;rename_i tB hb;exact⟨tB,hb,hK _ _ _ (cN _ (K:=λtS=>K _ tS (fs++[GG md L])) (fo (K:=λte=>ck (yM L tB tS) λtS=>K te tS (fs++[GG md L])) (gL v (K:=λv=>gB te o.dst v λte=>ck (yM L tB tS) λtS=>K te tS (fs++[GG md L])) h1)))⟩
  grind
 rcases Pn qJ with rfl|rfl|rfl;refine lG ho hw nY (Pd c1 c2 c3 c4 c7 c8 c9 hsp λv t hv=>(all v t hv).imp λ_ h=>h.1) ?_;rintro v cr bU ft ⟨t,tB,hv,hb,rfl,rfl,-⟩;obtain⟨tB',e1,e2⟩:=all v t hv;rw[hb]at e1;cases e1;exact e2;cases hm;obtain⟨rfl,rfl⟩:=nY;obtain⟨d1,d2,d3⟩:=c10 an;refine um ho hw hn (M4 (tt:=tt) c1 (hh.resolve_left an) c2 c3 c4 c5 c6 d1 d2 d3 c7 c8 c9 hsp λv t hv=>(all v t hv).imp λ_ h=>h.1) ?_;rintro v cr bU ft ⟨t,tB,hv,hb,rfl,rfl,rfl⟩;obtain⟨tB',e1,e2⟩:=all v t hv;rw[hb]at e1;cases e1;exact e2
 grind
 grind
theorem LM(hT:qP T aI call){Q:cp->cx->Prop}{md n0 k:Nat}{nG uD:cx}{uL:cp}(qJ:md<=2)(ho:ops[k]? =some o)(hw:eE ops uL o=some true)(nY:NR ty md o uL uD te tS){K:KO}(hK:∀te tS fs,K te tS fs->xN P ty aI call yf B ops Q md nG (k+1) te tS fs)
  (hn:AR tS (oE md n0 k tS)=true) (hh:md=0\/ty.h o≠1) (h:IL tt T md o te tS fs K):xN P ty aI call yf B ops Q md nG k uL uD fs:=by
 unfold IL at h;split at h;rename_i g kp targs ts hc;split at h;rename_i p s hs;obtain⟨hp,h⟩:=jd h;have hsp:=hT.C _ _ _ _ _ hs hp;have all:∀v cs,s.holds v cs->K0 md v cs (gI v λv=>gB te o.dst v λte=>dx cs λcs=>ck (tS.set kp (.cells cs)) λtS=>K te tS (fs++[DW md kp])):=λv cs hv=>
  H6 (R:=λv cs=>K0 md v cs (gI v λv=>gB te o.dst v λte=>dx cs λcs=>ck (tS.set kp (.cells cs)) λtS=>K te tS (fs++[DW md kp]))) h hv
 have fin:∀v cs,s.holds v cs->xN P ty aI call yf B ops Q md nG (k+1) (kC te o.dst v) (tS.set kp (.cells cs)) (fs++[DW md kp]):=λv cs hv=>by have h1:=fo (gL v (K:=λv=>gB te o.dst v λte=>dx cs λcs=>ck (tS.set kp (.cells cs)) λtS=>K te tS (fs++[DW md kp])) (Mp (all v cs hv)).2);exact hK _ _ _ (cN _ (K:=λtS=>K _ tS (fs++[DW md kp])) (cv cs (K:=λcs=>ck (tS.set kp (.cells cs)) λtS=>K _ tS (fs++[DW md kp])) h1))
 rcases Pn qJ with rfl|rfl|rfl;obtain⟨f,args,argTypes,fs1,cs1,xs,c1,c2,c3,c4,c5,c6,c7⟩:=Tg (tt:=tt) hc;refine lG ho hw nY (O9 c1 c2 c3 c4 c5 c6 c7 hsp) ?_;rintro v cr bU ft ⟨AH,hv,rfl,rfl,-⟩;exact fin v AH hv;cases hc;obtain⟨f,args,argTypes,fs1,cs1,xs,off,rest,c1,c2,c3,c4,c5,c6,c7,rfl⟩:=Ti (tt:=tt) hc;obtain⟨rfl,rfl⟩:=nY;refine um ho hw hn (M3 (tt:=tt) c1 (hh.resolve_left an) c2 c3 c4 c5 c6 c7 hsp λv cs hv=>(Mp (all v cs hv)).1 rfl) ?_;rintro v cr bU ft ⟨AH,hv,rfl,rfl,rfl⟩;exact fin v AH hv;exact L6 hT qJ ho hw nY hK hn hh h;exact L6 hT qJ ho hw nY hK hn hh h
theorem acA(hT:qP T aI call)(hI:xC P ty call yf T inl){Q:cp->cx->Prop}{md n0 k:Nat}{nG uD:cx}{uL:cp}(qJ:md<=2)(ho:ops[k]? =some o)(hw:eE ops uL o=some true)(nY:NR ty md o uL uD te tS){K:KO}(hK:∀te tS fs,K te tS fs->xN P ty aI call yf B ops Q md nG (k+1) te tS fs)
  (hn:AR tS (oE md n0 k tS)=true) (h:V9 ty tt T inl md (oE md n0 k tS) o te tS fs K):xN P ty aI call yf B ops Q md nG k uL uD fs:=by
 unfold V9 at h;split at h;rename_i k' s5 AB xs hx;obtain⟨hm,f,args,argTypes,c1,c2,c3,c4⟩:=aaN hx;obtain⟨ps,oS,body,Iq,y6,ZH,hrf,hyf,hlen,hr,hw'⟩:=hI.y _ _ _ _ _ _ h;have hd:∀nT dr,Does P ty aI call yf B o nT te tS dr λv cr bU ft=>∃jW,adO o te tS fs K k' jW/\v=.val (.bool true)/\cr=te.map (uZ tS k')/\bU=pR k' 0 tS (jW.set k' .loop)/\ft=⟨none,true⟩:=λnT dr=>O7 c1 hyf c2 hrf c3 c4 hlen hr hw' λjW hk=>by obtain⟨h0,-⟩:=iq hk;simp only[aD,aX]at h0;exact h0
 have fin:∀jW,adO o te tS fs K k' jW->xN P ty aI call yf B ops Q md nG (k+1) (kC (te.map (uZ tS k')) o.dst (.val (.bool true))) (pR k' 0 tS (jW.set k' .loop)) (fs++[⟨none,true⟩]):=λjW hk=>by obtain⟨-,hk⟩:=iq hk;exact hK _ _ _ (cN _ (K:=λtS=>K _ tS (fs++[⟨none,true⟩])) (fo (K:=λte=>ck (pR k' 0 tS (jW.set k' .loop)) λtS=>K te tS (fs++[⟨none,true⟩])) (cv _ (K:=λte=>gB te o.dst (.val (.bool true)) λte=>ck (pR k' 0 tS (jW.set k' .loop)) λtS=>K te tS (fs++[⟨none,true⟩])) hk)))
 rcases Pn qJ with rfl|rfl|rfl;refine lG ho hw nY (hd _ false) ?_;rintro v cr bU ft ⟨jW,hv,rfl,rfl,rfl,rfl⟩;exact fin jW hv
 grind
 obtain⟨rfl,rfl⟩:=nY;refine um ho hw hn (hd _ true) ?_;rintro v cr bU ft ⟨jW,hv,rfl,rfl,rfl,rfl⟩;exact fin jW hv;split at h;rename_i A fn j hx;obtain⟨rfl,f,args,argTypes,g,fs1,cs1,xs,c1,c2,c3,c4,rfl,c5⟩:=ab5 hx;refine lG ho hw nY (Y6 c1 c2 c3 c4 (hI.c g fn j _ tS _ c5 h)) ?_;rintro v cr bU ft ⟨rfl,hv⟩;exact hK _ _ _ (fo (K:=λte=>K te bU fs) (cv (gn tS te) (K:=λte=>gB te o.dst v λte=>K te bU fs) (gL v (K:=λv=>dx (gn tS te) λte=>gB te o.dst v λte=>K te bU fs) hv)));split at h;rename_i hh
 replace hh:ty.h o=1:=by simpa using hh
 split at h;exact LM hT qJ ho hw nY hK hn (.inl rfl) h;rename_i g targs hc _ _;obtain⟨f,args,argTypes,fs1,cs1,xs,c1,c2,c3,c4,c5⟩:=Mx hc;split at h;rename_i p e s hs;obtain⟨hp,h⟩:=jd h;obtain⟨rfl,rfl⟩:=nY;refine um ho hw hn (O8 c1 hh c2 c3 c4 c5 (hT.O _ _ _ _ _ hs hp)) ?_;rintro v cr bU ft ⟨t,C3,hv,rfl,rfl,rfl,rfl⟩;have h1:=Fu (R:=λv=>VJ e (oE 2 n0 k uD) v λv b=>gI v λv=>gB cr o.dst v λte=>ck (oC uD (oE 2 n0 k uD) b) λtS=>K te tS (fs++[⟨some [oE 2 n0 k uD],true⟩])) h hv;simp only[VJ]at h1;exact hK _ _ _ (cN _ (K:=λtS=>K _ tS (fs++[⟨some [oE 2 n0 k uD],true⟩])) (fo (gL _ (K:=λv=>gB cr o.dst v λte=>ck (oC uD (oE 2 n0 k uD) (.own e t.size)) λtS=>K te tS (fs++[⟨some [oE 2 n0 k uD],true⟩])) h1)))
 grind
 grind
 rename_i hh
 replace hh:ty.h o≠1:=by simpa using hh
 split at h;rename_i g targs hc;obtain⟨f,args,argTypes,fs1,cs1,xs,c1,c2,c3,c4,c5⟩:=Mx hc;split at h;rename_i p s hm hs;have hm:md=0:=by simpa using hm
 subst hm;obtain⟨hp,h⟩:=jd h;refine lG ho hw nY (Pb c1 hh c2 c3 c4 c5 (hT.N _ _ _ _ hs hp)) ?_;rintro v cr bU ft ⟨ts,hq,rfl,rfl,rfl⟩;have e:oC tS tS.length (.cells ts)=tS++[.cells ts]:=by unfold oC;rw[if_neg (Nat.lt_irrefl _)]
 rw[e];exact hK _ _ _ (fo (K:=λte=>K te (tS++[.cells ts]) fs) (Ph (R:=λcs=>gB cr o.dst (.ptr tS.length 0) λte=>K te (tS++[.cells cs]) fs) h hq));split at h;rename_i p s hs;obtain⟨hp,h⟩:=jd h;have hsp:=hT.I _ _ _ _ hs hp;have fin:∀v,s.oI v->xN P ty aI call yf B ops Q md nG (k+1) (kC te o.dst v) tS (fs++[gH]):=λv hv=>
  hK _ _ _ (fo (K:=λte=>K te tS (fs++[gH])) (gL v (K:=λv=>gB te o.dst v λte=>K te tS (fs++[gH])) (Fu (R:=λv=>gI v λv=>gB te o.dst v λte=>K te tS (fs++[gH])) h hv)))
 rcases Pn qJ with rfl|rfl|rfl
 skip
 refine lG ho hw nY (Ft c1 hh c2 c3 c4 c5 hsp false) ?_;rintro v cr bU ft ⟨hv,rfl,rfl,-⟩;exact fin v hv;obtain⟨rfl,rfl⟩:=nY;exactλe=>Xv ho hw c1 hh c2 c3 c4 c5 hsp λv hv=>fin v hv e
 skip
 obtain⟨rfl,rfl⟩:=nY;refine um ho hw hn (Ft c1 hh c2 c3 c4 c5 hsp true) ?_;rintro v cr bU ft ⟨hv,rfl,rfl,rfl⟩;exact fin v hv
 grind
 exact LM hT qJ ho hw nY hK hn (.inr hh) h
theorem LH{Q:cp->cx->Prop}{md n0 k:Nat}{nG uD:cx}{uL:cp}(qJ:md<=2)(ho:ops[k]? =some o)(hw:eE ops uL o=some true)(nY:NR ty md o uL uD te tS){K:KO}(hK:∀te tS fs,K te tS fs->xN P ty aI call yf B ops Q md nG (k+1) te tS fs)
  (hn:AR tS (oE md n0 k tS)=true) {v:TV} (hb:Nb o) (hp:bX P ty tt te tS o=some (v,True)) (h:gB te o.dst v λte=>K te tS (fs++[gH])):xN P ty aI call yf B ops Q md nG k uL uD fs:=by
 have h1:=hK _ _ _ (fo (K:=λte=>K te tS (fs++[gH])) h);rcases Pn qJ with rfl|rfl|rfl
 skip
 refine lG ho hw nY (lY (Am hb hp) trivial false) ?_;rintro v' cr bU ft ⟨rfl,rfl,rfl,-⟩;exact h1;obtain⟨rfl,rfl⟩:=nY;exactλe=>Jb ho hw (e▸hp) trivial (h1 e)
 skip
 obtain⟨rfl,rfl⟩:=nY;refine um ho hw hn (lY (Am hb hp) trivial true) ?_;rintro v' cr bU ft ⟨rfl,rfl,rfl,rfl⟩;rw[agp hb];exact h1
theorem WC(hT:qP T aI call)(hI:xC P ty call yf T inl){Q:cp->cx->Prop}{md n0 k:Nat}{nG uD:cx}{uL:cp}(qJ:md<=2)(ho:ops[k]? =some o)(hw:eE ops uL o=some true)(nY:NR ty md o uL uD te tS){K:KO}(hK:∀te tS fs,K te tS fs->xN P ty aI call yf B ops Q md nG (k+1) te tS fs)
  (h:aaj P ty tt T inl md n0 k o te tS fs K):xN P ty aI call yf B ops Q md nG k uL uD fs:=by
 unfold aaj at h;split at h
 grind
 rename_i hn;split at h;exact acA hT hI qJ ho hw nY hK hn h;split at h;rename_i v cr bU f c hm;obtain⟨hc,h⟩:=h;have h1:=fo (cv cr (K:=λte=>gB te o.dst v λte=>ck bU λtS=>K te tS (fs++[f])) (gL v (K:=λv=>dx cr λte=>gB te o.dst v λte=>ck bU λtS=>K te tS (fs++[f])) h));have h1:=hK _ _ _ (cN bU (K:=λtS=>K _ tS (fs++[f])) h1);unfold ac5 at hm;split at hm;rename_i v2 g c2 hr;cases hm;rcases Pn qJ with rfl|rfl|rfl;refine lG ho hw nY (Fs hr hc false) ?_;rintro v' UJ jW ft ⟨rfl,rfl,rfl,rfl⟩;exact h1;obtain⟨rfl,rfl⟩:=nY;exactλe=>Xu ho hw (e▸hr) hc (h1 e);obtain⟨rfl,rfl⟩:=nY;refine um ho hw hn (Fs hr hc true) ?_;rintro v' UJ jW ft ⟨rfl,rfl,rfl,rfl⟩;exact h1;split at hm;cases hm;rename_i h91;split at hm;rename_i g jW hs;cases hm;rcases Pn qJ with rfl|rfl|rfl;refine lG ho hw nY (Fq hs false) ?_;rintro v' UJ jW ft ⟨rfl,rfl,rfl,rfl⟩;exact h1
 grind
 obtain⟨rfl,rfl⟩:=nY;refine um ho hw hn (Fq hs true) ?_;rintro v' UJ jW ft ⟨rfl,rfl,rfl,rfl⟩;exact h1;split at hm;rename_i h90;subst h90;simp only[ah,aA]at hm;obtain⟨⟨v2,UJ,jW,c2⟩,hs,rfl,rfl,rfl,rfl,rfl⟩:=hm;refine lG ho hw nY (Pa hs hc) ?_;rintro v' te3 tS3 ft ⟨rfl,rfl,rfl⟩;exact h1;cases hm;split at h;rename_i v bU c hm;have h0:md=0:=by unfold mapM at hm;split at hm;rfl;cases hm
 subst h0;refine lG ho hw nY (Y5 hm h.1) ?_;rintro v' cr jW ft ⟨rfl,rfl,rfl⟩;have h1:=fo (gL v' (K:=λv=>gB cr o.dst v λte=>ck jW λtS=>K te tS (fs++[⟨none,true⟩])) h.2);exact hK _ _ _ (cN jW (K:=λtS=>K _ tS (fs++[⟨none,true⟩])) h1);split at h;rename_i v c ha;exact LH qJ ho hw nY hK hn (Uj ha) (Pg (tt:=tt) ha h.1) h.2;split at h;rename_i b _ hb;exact LH qJ ho hw nY hK hn (acw hb) (Zb (tt:=tt) hb) h;rename_i b c _ _ hb;obtain⟨hc,h⟩:=h;have h1:=hK _ _ _ (fo (K:=λte=>K te tS (fs++[gH])) h);rcases Pn qJ with rfl|rfl|rfl;refine lG ho hw nY (Mr (sD (P:=P) (aI:=aI) (call:=call) (yf:=yf) (ι:=fF) (S:=[]) hb hc).1 (λhE aC=>(sD hb hc).2 hE aC) false) ?_;rintro v' cr bU ft ⟨rfl,rfl,rfl,-⟩;exact h1;obtain⟨rfl,rfl⟩:=nY;exactλe=>afc ho hw (sD (P:=P) (aI:=aI) (call:=call) (yf:=yf) (ι:=fF) (S:=[]) hb hc).1 (λhE aC=>(sD hb hc).2 hE aC) (h1 e);obtain⟨rfl,rfl⟩:=nY;refine um ho hw hn (Mr (sD (P:=P) (aI:=aI) (call:=call) (yf:=yf) (ι:=fF) (S:=[]) hb hc).1 (λhE aC=>(sD hb hc).2 hE aC) true) ?_;rintro v' cr bU ft ⟨rfl,rfl,rfl,rfl⟩;exact h1;have key:md≠1->∀q:TR,stepT P ty tt te tS o (oE md n0 k tS)=some q->q.c->K (kC q.te o.dst q.v) q.tS (fs++[⟨some q.FY,nZ o⟩])->xN P ty aI call yf B ops Q md nG k uL uD fs:=by
  intro hm q hq hc hk;have h1:=hK _ _ _ hk;rcases Pn qJ with rfl|rfl|rfl
  skip
  refine lG ho hw nY (lY hq hc false) ?_;rintro v' cr bU ft ⟨rfl,rfl,rfl,-⟩;exact h1
  grind
  skip
  obtain⟨rfl,rfl⟩:=nY;refine um ho hw hn (lY hq hc true) ?_;rintro v' cr bU ft ⟨rfl,rfl,rfl,rfl⟩;exact h1
 split at h;split at h;rename_i q hq;have fin:∀{R:Prop},q.2->K (kC te o.dst q.1) tS (fs++[gH])->xN P ty aI call yf B ops Q 1 nG k uL uD fs:=λ{_} hc hk=>by obtain⟨h8,h9⟩:=nY;subst h8 h9;exactλe=>Jb ho hw (e▸(show bX P ty tt uL uD o=some (q.1,q.2)from hq)) hc (hK _ _ _ hk e)
 split at h;exact fin (R:=True) h.1 (fo (K:=λte=>K te tS (fs++[gH])) (gL q.1 (K:=λv=>gB te o.dst v λte=>K te tS (fs++[gH])) h.2));rename_i qd;exact fin (R:=True) (LY qd hq) (fo (K:=λte=>K te tS (fs++[gH])) (gL q.1 (K:=λv=>gB te o.dst v λte=>K te tS (fs++[gH])) h))
 grind
 rename_i hm;split at h;rename_i q hq;split at h;refine key (λe=>hm e) q hq h.1 ?_;have h1:=cv q.te (gL q.v (K:=λv=>dx q.te λte=>gB te o.dst v λte=>ck q.tS λtS=>K te tS (fs++[⟨some q.FY,nZ o⟩])) h.2);exact cN q.tS (K:=λtS=>K _ tS _) (fo h1);rename_i qd;refine key (λe=>hm e) q hq (YC qd hq) ?_;have h1:=fo (gL q.v (K:=λv=>gB q.te o.dst v λte=>ck q.tS λtS=>K te tS (fs++[⟨some q.FY,nZ o⟩])) h);exact cN q.tS (K:=λtS=>K _ tS _) h1
 grind
theorem Ls{n:Int}{K:Nat->Prop}:∀(c j:Nat),NZ n K c j->∃i:Nat,n=i/\K i
 |0,_,h=>h.elim
 |c+1,j,h=>by
  obtain⟨h1,h2⟩:=wJ h;by_cases e:n=(j:Int)
  grind
  exact Ls c (j+1) (h2 (gR e))
theorem agr{t c:Nat}{n:Int}(h:aeF ty te o=some (t,n,c)):te[t]? =some (.val (.int .i64 n)):=by
 unfold aeF at h;split at h
 grind
 grind
 cases h
theorem afq{Q:cp->cx->Prop}{md n0 k:Nat}{nG uD:cx}{uL:cp}(qJ:md<=2)(ho:ops[k]? =some o)(hw:eE ops uL o=some true)(nY:NR ty md o uL uD te tS){K:KO}(hK:∀te tS fs,K te tS fs->xN P ty aI call yf B ops Q md nG (k+1) te tS fs)
  (hn:AR tS (oE md n0 k tS)=true) {q:aeH} (hq:CM ty tt te tS o=some q) (h:aae md (oE md n0 k tS) o te tS fs K q):xN P ty aI call yf B ops Q md nG k uL uD fs:=by
 have quiet:∀{v v2:TV}{id:cy},bX P ty tt te tS o=some (v,True)->((∃t x i,o.op=.indexAddr t x i)\/∃t a,o.op=.load t a)->lJ te o=id->UE v2 v->xN P ty aI call yf B ops Q md nG (k+1) (kC te o.dst v2) tS (fs++[⟨some id,false⟩])->xN P ty aI call yf B ops Q md nG k uL uD fs:=by intro v v2 id hp hi hr hv hb;rcases Pn qJ with rfl|rfl|rfl;obtain⟨k1,k2⟩:=EY (nT:=tS.length) hp hi;refine lG ho hw nY (Dp (lY k1 trivial false) (Q':=λv cr bU ft=>v=v2/\cr=te/\bU=tS) ?_) ?_;rintro _ _ _ _ ⟨rfl,rfl,rfl,rfl⟩;exact⟨v2,_,_,⟨none,true⟩,hv,DC.refl _,U5.refl _,λ_=>rfl,λ_ hl=>by(cases hl),rfl,rfl,rfl⟩;rintro _ _ _ _ ⟨rfl,rfl,rfl⟩;exact hb;obtain⟨rfl,rfl⟩:=nY;exactλe=>Jb ho hw (e▸hp) trivial (ahf (afe hv _ _) (hb e));obtain⟨rfl,rfl⟩:=nY;obtain⟨k1,k2⟩:=EY (nT:=n0+k) hp hi;refine um ho hw hn (Dp (lY k1 trivial true) (Q':=λv cr bU ft=>v=v2/\cr=uL/\bU=uD/\ft=⟨some id,false⟩) ?_) ?_;rintro _ _ _ _ ⟨rfl,rfl,rfl,rfl⟩;exact⟨v2,_,_,⟨some id,false⟩,hv,DC.refl _,U5.refl _,λe=>(by rw[k2]at e;exact e),λl hl=>⟨l,(by rw[hr];exact hl),λ_ h=>h⟩,rfl,rfl,rfl,rfl⟩;rintro _ _ _ _ ⟨rfl,rfl,rfl,rfl⟩;exact hb
 have go:∀{v:TV}{cr:cp}{bU:cx}{ft:dz},md≠1->(∀nT dr,nT=oE md n0 k tS->Does P ty aI call yf B o nT te tS dr λv' uP uQ ft'=>v'=v/\uP=cr/\uQ=bU/\ft'=ft)->xN P ty aI call yf B ops Q md nG (k+1) (kC cr o.dst v) bU (fs++[ft])->xN P ty aI call yf B ops Q md nG k uL uD fs:=by
  intro v cr bU ft hm hd hb;rcases Pn qJ with rfl|rfl|rfl;refine lG ho hw nY (hd _ false rfl) ?_;rintro _ _ _ _ ⟨rfl,rfl,rfl,rfl⟩;exact hb
  grind
  obtain⟨rfl,rfl⟩:=nY;refine um ho hw hn (hd _ true rfl) ?_;rintro _ _ _ _ ⟨rfl,rfl,rfl,rfl⟩;exact hb
 cases q with
 |ix v c=>
  obtain⟨hc,h⟩:=h;obtain⟨h1,h2⟩:=afr (P:=P) hq hc;have hr:lJ te o=[]:=by obtain⟨t,x,i,e⟩:=h2;simp only[lJ,e]
  exact quiet h1 (.inl h2) hr (UE.refl _) (hK _ _ _ (fo (K:=λte=>K te tS (fs++[gH])) h))
 |ld0 id off t x=>obtain⟨hc,h⟩:=iq h;obtain⟨⟨ap,h1⟩,h2,h3⟩:=abd (P:=P) hq (by simpa using hc);refine quiet h1 (.inr h3) h2 (λι S d hd=>?_) (hK _ _ _ (fo (v:=.sl t x .no) (K:=λte=>K te tS (fs++[⟨some [id],false⟩])) h));cases d<;>simp only[RT]at hd⊢;exact⟨hd.1,trivial⟩
 |ld id off u c l b=>
  cases b with
  |true=>obtain⟨x,g,hx,h⟩:=h;obtain⟨h1,h2,h3⟩:=Ws (P:=P) hq hx;refine quiet h1 (.inr h3) h2 (λι S d hd=>?_) (hK _ _ _ (fo (v:=.sl u x (.CG g)) (K:=λte=>K te tS (fs++[⟨some [id],false⟩])) h));cases d<;>simp only[RT,pU]at hd⊢;exact hd
  |false=>obtain⟨x,hx,h⟩:=h;obtain⟨h1,h2,h3⟩:=Ws (P:=P) hq hx;exact quiet h1 (.inr h3) h2 (UE.refl _) (hK _ _ _ (fo (v:=.sl u x .no) (K:=λte=>K te tS (fs++[⟨some [id],false⟩])) h))
 |st id off c l u y g=>
  simp only[aae]at h;split at h
  grind
  rename_i hm;obtain⟨j,hj,hl,h⟩:=h;exact go (by simpa using hm) (λnT dr _=>aco hq hj hl dr) (hK _ _ _ (cN _ (K:=λtS=>K _ tS (fs++[⟨some [id],true⟩])) (fo (K:=λte=>ck (tS.set id (.cells (c::l.set j (.sl u y (.iT g))))) λtS=>K te tS (fs++[⟨some [id],true⟩])) h)))
 |ap e s g k' l c=>
  simp only[aae]at h;split at h;rename_i lo n hm he;obtain⟨⟨h1,h2⟩,hc,h⟩:=h;have e1:(qM e s 0 tS).1=lo:=by rw[he]
  have e2:(qM e s 0 tS).2=n:=by rw[he]
  have hd:=λdr=>acp (P:=P) (aI:=aI) (call:=call) (yf:=yf) (B:=B) (nT:=oE md n0 k tS) hq hc (by rw[e1];exact h1) (by rw[e1,e2];exact h2) dr;rw[e1,e2]at hd;exact go (by simpa using hm) (λnT dr hnT=>by subst hnT;exact hd dr) (hK _ _ _ (cN _ (K:=λbU=>K _ bU (fs++[⟨some (oE md n0 k tS::List.range' lo n),true⟩])) (fo (v:=.sl k' l (.CG g)) (K:=λte=>ck (IB tS g tS) λbU=>K te bU (fs++[⟨some (oE md n0 k tS::List.range' lo n),true⟩])) (cv _ (K:=λte=>gB te o.dst (.sl k' l (.CG g)) λte=>ck (IB tS g tS) λbU=>K te bU (fs++[⟨some (oE md n0 k tS::List.range' lo n),true⟩])) h))))
  grind
theorem WB(hT:qP T aI call)(hI:xC P ty call yf T inl){Q:cp->cx->Prop}{md n0 k:Nat}{nG uD:cx}{uL:cp}(qJ:md<=2)(ho:ops[k]? =some o)(hw:eE ops uL o=some true)(nY:NR ty md o uL uD te tS){K:KO}(hK:∀te tS fs,K te tS fs->xN P ty aI call yf B ops Q md nG (k+1) te tS fs)
  (h:Sa P ty tt T inl md n0 k o te tS fs K):xN P ty aI call yf B ops Q md nG k uL uD fs:=by
 unfold Sa at h;split at h;split at h;rename_i hq _ hn;exact afq qJ ho hw nY hK hn hq h
 grind
 split at h;rename_i t n c ha;obtain⟨i,rfl,hi⟩:=Ls _ _ h;have:=qS te t _ hi;rw[ql (agr ha)]at this;exact WC hT hI qJ ho hw nY hK this;exact WC hT hI qJ ho hw nY hK h
theorem VK(hT:qP T aI call)(hI:xC P ty call yf T inl){Q:cp->cx->Prop}{md n0 k:Nat}{nG:cx}(qJ:md<=2)(ho:ops[k]? =some o)(hw:eE ops te o=some true){K:KO}(hK:∀te tS fs,K te tS fs->xN P ty aI call yf B ops Q md nG (k+1) te tS fs)
  (h:opK P ty tt T inl md n0 k o te tS fs K):xN P ty aI call yf B ops Q md nG k te tS fs:=by
 unfold opK at h;split at h;split at h;rename_i mV iS hp;exact WB hT hI qJ ho hw hp hK (cN iS (K:=λtS=>Sa P ty tt T inl 0 n0 k o mV tS fs K) (cv mV (K:=λte=>ck iS λtS=>Sa P ty tt T inl 0 n0 k o te tS fs K) h))
 grind
 rename_i hno;refine WB hT hI qJ ho hw ?_ hK h;rcases Pn qJ with rfl|rfl|rfl;show Nz ty te tS o=some (te,tS);unfold Nz;split
 grind
 rfl;exact⟨rfl,rfl⟩;exact⟨rfl,rfl⟩
theorem adr{b:Bool}(h:gdT ops te o=.no b):eE ops te o=some b:=by
 unfold gdT at h;unfold eE;split at h
 grind
 grind
theorem aga{d:Tmp}{b want:Bool}(h:gdT ops te o=.ask d b want):te[d]? =some (.val (.bool b))/\eE ops te o=some (match want with|true=>b|false=>!b):=by
 unfold gdT at h;unfold eE;split at h;cases h
 grind
theorem D3(hT:qP T aI call)(hI:xC P ty call yf T inl){Q:cp->cx->Prop}{md n0:Nat}{nG:cx}(qJ:md<=2){K:KO}(hK:∀te tS fs,K te tS fs->xN P ty aI call yf B ops Q md nG ops.size te tS fs):
  ∀(r:List Oper)(k:Nat)(te:cp)(tS:cx)(fs:cY),ops.toList.drop k=r->qK P ty tt T inl md n0 ops r k te tS fs K->xN P ty aI call yf B ops Q md nG k te tS fs
 |[],k,te,tS,fs,hr,h=>by
  have hk:ops.size<=k:=by have:=List.drop_eq_nil_iff.1 hr;simpa using this
  have h1:=hK te tS fs h;rcases Pn qJ with rfl|rfl|rfl;intro ι env S hR hB;have:=h1 ι env S hR hB;rw[ki ae]at this;rw[ki (by simpa using hk)];exact this
  intro e ι env S hR;have:=h1 e ι env S hR;rw[ki ae]at this;rw[ki (by simpa using hk)];exact this
  skip
  intro ι w env S n0 hR hB hw hn;have:=h1 ι w env S n0 hR hB hw (λj hj AL=>ab);rw[ki ae]at this;rw[ki (by simpa using hk)];obtain⟨aL,S',xL,ι',w',cr,bU,ft,e1,e2,e3,e4,e5,e6,e7,e8,e9⟩:=this;exact⟨aL,S',xL,ι',w',cr,bU,ft,e1,e2,λj _=>e3 j λi hi Np=>ab,e4,e5,e6,e7,⟨e8.1,λj _ hn=>e8.2 j (λi hi Np=>ab) hn⟩,e9⟩
 |o::r,k,te,tS,fs,hr,h=>by
  obtain⟨ho,Gh⟩:=MX hr;have ih:∀te tS fs,qK P ty tt T inl md n0 ops r (k+1) te tS fs K->xN P ty aI call yf B ops Q md nG (k+1) te tS fs:=λte tS fs=>D3 hT hI qJ hK r (k+1) te tS fs Gh.symm;simp only[qK]at h;split at h;rename_i hg;exact VK hT hI qJ ho (adr hg) ih h;rename_i hg;exact Jj qJ ho (adr hg) ih h;rename_i d b want hg;obtain⟨h1,h2⟩:=aga hg;split at h;obtain⟨k1,k2⟩:=wJ h;cases b with
  |true=>have:=qS te d _ (k1 rfl);rw[ql h1]at this;exact VK hT hI qJ ho h2 ih this
  |false=>have:=qS te d _ (k2 rfl);rw[ql h1]at this;exact Jj qJ ho h2 ih this
  obtain⟨k1,k2⟩:=wJ h;cases b with
  |true=>have:=qS te d _ (k1 rfl);rw[ql h1]at this;exact Jj qJ ho h2 ih this
  |false=>have:=qS te d _ (k2 rfl);rw[ql h1]at this;exact VK hT hI qJ ho h2 ih this
  grind
end Go.Tv
