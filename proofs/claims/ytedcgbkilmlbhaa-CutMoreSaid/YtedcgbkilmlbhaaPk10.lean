import Derived.Test.YtedcgbkilmlbhaaPk09
namespace Go.Tv
open Go Go.Di Go.Proofs
theorem vU{b:Bool}{A B:Prop}(h:aS b A B):(b=true->A)/\(b=false->B):=by cases b<;>exact⟨λe=>by cases e<;>exact h,λe=>by cases e<;>exact h⟩
theorem gU{b:Bool}{A:Prop}(h:aS b A False):b=true/\A:=by
 cases b;.exact h.elim
 exact⟨rfl,h⟩
theorem lN:∀{l:List Prop},dg l↔∀p∈l,p
 |[]=>by simp[dg]
 |p::l=>by have:=lN (l:=l);simp only[dg,this,bw,forall_eq_or_imp]
theorem iW:∀{l:List Prop}{R:Prop},Ar l R->dg l/\R
 |[],_,h=>⟨trivial,h⟩
 |p::l,R,h=>by obtain⟨h1,h2⟩:=iW h.2;exact⟨lN.2 (by rintro q hq;rcases bw.1 hq with rfl|hq;exact h.1;exact lN.1 h1 q hq),h2⟩
theorem j5{l m:List Prop}(h:dg (l++m)):dg l/\dg m:=by rw[lN]at h;exact⟨lN.2 λp hp=>h p (qM _ hp),lN.2 λp hp=>h p (List.mem_append_right _ hp)⟩
theorem nj:∀{l:List Prop}{R:Prop},impl l R->dg l->R
 |[],_,h,_=>h
 |p::l,R,h,k=>by rw[lN]at k;exact nj (h (k p (fH ..))) (lN.2 λq hq=>k q (jZ _ hq))
theorem iR{o:Option (List Prop)}{K:Prop}(h:ask o K):∃l,o=some l/\dg l/\K:=by
 cases o with
 |none=>exact h.elim
 |some l=>exact⟨l,rfl,iW h⟩
theorem Ia{R K:TV->List TV->List Prop->Prop}:∀{s:tC},s.all R->s.some K->∃v cs fs,R v cs fs/\K v cs fs
 |.ex _ _,h,⟨x,k⟩=>Ia (h x) k
 |.res v cs fs,h,k=>⟨v,cs,fs,h,k⟩
theorem Hx{R:TV->List TV->Prop}{v:TV}{cs:List TV}{s:tC}(h:s.all λv cs fs=>impl fs (R v cs))(k:s.holds v cs):R v cs:=by obtain⟨v',lC,fs,h,rfl,rfl,hf⟩:=Ia h k;exact nj h hf
theorem E4{R:TV->Prop}{v:TV}{s:tC}(h:s.all λv _ fs=>impl fs (R v))(k:s.ow v):R v:=by obtain⟨v',lC,fs,h,rfl,hf⟩:=Ia h k;exact nj h hf
theorem Oh{R:List TV->Prop}{cs:List TV}{s:tC}(h:s.all λ_ cs fs=>impl fs (R cs))(k:s.Az cs):R cs:=by obtain⟨v',lC,fs,h,rfl,hf⟩:=Ia h k;exact nj h hf
mutual
theorem gC:∀(v:TV){K:TV->Prop},gz v K->K v
 |.unk,_,h=>h
 |.val v,_,h=>by cases v<;>exact h
 |.ax,_,h=>h
 |.agg l,K,h=>by simp only[gz]at h;exact cg l (K:=λl=>K (.agg l)) h
 |.tup l,K,h=>by simp only[gz]at h;exact cg l (K:=λl=>K (.tup l)) h
 |.sl _ _ _,_,h=>h
 |.ptr _ _,_,h=>h
 |.fq _ _ _ _,_,h=>h
 |.mp _,_,h=>h
 |.so _ _,_,h=>h
 |.sp _ _ _ _,_,h=>h
 |.od k fn te,K,h=>by simp only[gz]at h;exact cg te (K:=λte=>K (.od k fn te)) h
 |.fn f a b,K,h=>by simp only[gz]at h;exact cg b (K:=λb=>K (.fn f a b)) (cg a (K:=λa=>dc b λb=>K (.fn f a b)) h)
theorem cg:∀(l:List TV){K:List TV->Prop},dc l K->K l
 |[],_,h=>h
 |a::l,K,h=>by
  have h1:=gC a (K:=λa=>match qZ a with|true=>K (a::l)|false=>dc l λl=>K (a::l)) (by simp only[dc]at h;exact h);split at h1;.exact h1
  exact cg l (K:=λl=>K (a::l)) h1
end
theorem cI:∀(l:List TB){K:List TB->Prop},bW l K->K l
 |[],_,h=>h
 |.cells c::l,K,h=>cI l (K:=λl=>K (.cells c::l)) (cg c (K:=λc=>bW l λl=>K (.cells c::l)) h)
 |.none::l,K,h=>cI l (K:=λl=>K (.none::l)) h
 |.loop::l,K,h=>cI l (K:=λl=>K (.loop::l)) h
 |.own e s::l,K,h=>cI l (K:=λl=>K (.own e s::l)) h
 |.map kt c::l,K,h=>cI l (K:=λl=>K (.map kt c::l)) h
 |.rows t e c z::l,K,h=>cI l (K:=λl=>K (.rows t e c z::l)) h
theorem qB:∀(l:List TV)(n:Nat)(v:TV){K:List TV->Prop},FA l n v K->K (l.set n v)
 |[],_,_,_,h=>h
 |_::_,0,_,_,h=>h
 |a::l,n+1,v,K,h=>qB l n v (K:=λl=>K (a::l)) h
theorem eP{te:List TV}{dst:Option Tmp}{v:TV}{K:List TV->Prop}(h:gq te dst v K):K (j8 te dst v):=by
 cases dst with
 |none=>exact h
 |some d=>exact qB te d v h
theorem pZ:∀{l:List TV}{n:Nat}{v:TV},l[n]? =some v->l.set n v=l
 |[],_,_,h=>by simp at h
 |_::_,0,_,h=>by simp only[bY,aB]at h;rw[h];rfl
 |a::l,n+1,v,h=>by rw[List.set_cons_succ,pZ (l:=l) (by simpa using h)]
mutual
theorem xD:∀{a b:TV}{l:List Prop},Yg a b=some l->dg l->a=b
 |a,b,l,h,k=>by
  unfold Yg at h;split at h;.rfl
  .split at h;.rename_i hk;subst hk;cases h;rw[show _=_ from k.1]
   cases h
  .cases h;rw[show _=_ from k.1]
  .cases h;rw[show _=_ from k.1]
  .rfl
  .rw[sJ h k]
  .rw[sJ h k]
  .split at h;.rename_i ht;subst ht;cases h;cases(show _=_ from k.1);rfl
   cases h
  .split at h;.rename_i ht;subst ht;cases h;cases(show _=_ from k.1);rfl
   cases h
  .split at h
   .rename_i ht;subst ht;split at h;.rename_i hg;subst hg;cases h;cases(show _=_ from k.1);rfl
    cases h
   cases h
  .split at h
   .rename_i ht;subst ht;split at h;.rename_i hb;subst hb;cases h;cases(show _=_ from k.1);rfl
    cases h
   cases h
  .split at h;.rename_i ht;obtain⟨rfl,rfl⟩:=ht;rfl
   cases h
  .split at h;.rename_i ht;subst ht;rfl
   cases h
  .split at h;.rename_i ht;obtain⟨rfl,rfl⟩:=ht;rw[sJ h k]
   cases h
  .split at h;.rename_i ht;obtain⟨rfl,rfl⟩:=ht;rfl
   cases h
  .split at h;.rename_i ht;subst ht;cases h;obtain⟨k1,k2,k3⟩:=k;cases(show _=_ from k1);cases(show _=_ from k2);cases(show _=_ from k3.1);rfl
   cases h
  .split at h
   .rename_i hf;subst hf;split at h;.rename_i x y h1 h2;cases h;obtain⟨k1,k2⟩:=j5 k;rw[sJ h1 k1,sJ h2 k2]
    cases h
   cases h
  cases h
theorem sJ:∀{a b:List TV}{l:List Prop},QF a b=some l->dg l->a=b
 |[],[],_,_,_=>rfl
 |a::l,b::m,_,h,k=>by
  simp only[QF]at h;split at h;.simp only[af]at h;obtain⟨x,h1,rfl⟩:=h;obtain⟨k1,k2⟩:=j5 k;rw[xD h1 k1,(show l=m from k2.1)]
  split at h;.rename_i x y h1 h2;cases h;obtain⟨k1,k2⟩:=j5 k;rw[xD h1 k1,sJ h2 k2]
  cases h
 |[],_::_,_,h,_=>by simp[QF]at h
 |_::_,[],_,h,_=>by simp[QF]at h
end
def LeV(u v:TV):Prop:=∀l m,kF l m->kF (u::l) (v::m)
mutual
theorem Il:∀{v u:TV}{l:List Prop},leT v u=some l->dg l->LeV u v
 |v,u,l,h,k=>by
  unfold leT at h;split at h;.exactλ_ _=>.unk
  .split at h;.rename_i ht;subst ht;cases h;cases(show _=_ from k.1);exactλ_ _=>.no
   cases h
  .split at h;.rename_i ht;subst ht;cases h;cases(show _=_ from k.1);exactλ_ _=>.stop
   cases h
  .split at h
   .split at h;.rename_i ht;subst ht;cases h;cases(show _=_ from k.1);exactλ_ _=>.je
    cases h
   cases h
  .cases h;cases(show _=_ from k.1);exactλ_ _=>.ax
  .rename_i a b;have:=yQ h k;exactλ_ _=>.agg this
  rw[xD h k];exactλ_ _=>.same
theorem yQ:∀{v u:List TV}{l:List Prop},HO v u=some l->dg l->kF u v
 |[],[],_,_,_=>.nil
 |a::l,b::m,_,h,k=>by
  simp only[HO]at h;split at h;.simp only[af]at h;obtain⟨x,h1,rfl⟩:=h;obtain⟨k1,k2⟩:=j5 k;exact Il h1 k1 _ _ k2.1
  split at h;.rename_i x y h1 h2;cases h;obtain⟨k1,k2⟩:=j5 k;exact Il h1 k1 _ _ (yQ h2 k2)
  cases h
 |[],_::_,_,h,_=>by simp[HO]at h
 |_::_,[],_,h,_=>by simp[HO]at h
end
theorem aaC:∀{v u:List TB}{l:List Prop},qV v u=some l->dg l->Ck u v
 |v,u,l,h,k=>by
  induction u generalizing v l with
  |nil=>exact .nil
  |cons b m ih=>
   cases v with
   |nil=>
    cases b with
    |own e s=>exact .new (ih _ _ h k)
    |_=>simp[qV]at h
   |cons a v=>
    cases b with
    |none=>exact .none (ih _ _ (by simpa [qV]using h) k)
    |loop=>
     cases a with
     |loop=>exact .loop (ih _ _ (by simpa [qV]using h) k)
     |_=>simp[qV]at h
    |cells c=>
     cases a with
     |cells d=>
      simp only[qV]at h;split at h;.rename_i x y h1 h2;cases h;obtain⟨k1,k2⟩:=j5 k;exact .cells (yQ h1 k1) (ih _ _ h2 k2)
      cases h
     |_=>simp[qV]at h
    |own e s=>
     cases a with
     |own e' s'=>
      simp only[qV]at h;split at h;.rename_i he;obtain⟨rfl,rfl⟩:=he;exact .own (ih _ _ h k)
      cases h
     |_=>simp[qV]at h
    |map kt c=>
     cases a with
     |map kt' c'=>
      simp only[qV]at h;split at h
      .rename_i he;subst he;split at h;.rename_i y h2;cases h;obtain⟨k1,k2⟩:=k;cases(show _=_ from k1);exact .map (ih _ _ h2 k2)
       cases h
      cases h
     |_=>simp[qV]at h
    |rows t e c z=>
     cases a with
     |rows t' e' c' z'=>
      simp only[qV]at h;split at h
      .rename_i he;subst he;split at h
       .rename_i hez;obtain⟨rfl,rfl⟩:=hez;split at h;.rename_i y h2;cases h;obtain⟨k1,k2⟩:=k;cases(show _=_ from k1);exact .rows (ih _ _ h2 k2)
        cases h
       cases h
      cases h
     |_=>simp[qV]at h
theorem zG{sl:List (Nat×TV)}{keep:Nat}:∀{i:Nat}{te:List TV}{l:List Prop},wL sl i te=some l->dg l->kF (oC sl keep i te) te
 |_,[],_,_,_=>.nil
 |i,v::te,l,h,k=>by
  simp only[wL]at h;simp only[oC];split at h
  .rename_i p hp;split at h;.rename_i x y h1 h2;cases h;obtain⟨k1,k2⟩:=j5 k;exact Il h1 k1 _ _ (zG h2 k2)
   cases h
  rename_i hp;split;.exact .same (zG h k)
  exact .unk (zG h k)
theorem iU{pl:List (Nat×List TV)}{mp:MpL}{own:List (Nat×Nat)}:∀{i:Nat}{tS:List TB}{l:List Prop},jD pl mp i tS=some l->dg l->Ck (uw pl mp i tS++own.map λp=>TB.own p.1 p.2) tS
 |_,[],_,_,_=>Lf own
 |i,.none::tS,l,h,k=>by simp only[jD]at h;exact .none (iU h k)
 |i,.loop::tS,l,h,k=>by simp only[jD]at h;exact .loop (iU h k)
 |i,.own _ _::tS,l,h,k=>by simp only[jD]at h;exact .own (iU h k)
 |i,.cells c::tS,l,h,k=>by
  simp only[jD]at h;simp only[uw,nH];split at h
  .rename_i p hp;split at h;.rename_i x y h1 h2;cases h;obtain⟨k1,k2⟩:=j5 k;exact .cells (yQ h1 k1) (iU h2 k2)
   cases h
  exact .cells (kF.refl c) (iU h k)
 |i,.map kt c::tS,l,h,k=>by
  simp only[jD]at h;simp only[uw,nH];split at h
  .rename_i a kt' c' hp;split at h
   .rename_i he;subst he;split at h;.rename_i y h2;cases h;obtain⟨k1,k2⟩:=k;cases(show c=c' from k1);exact .map (iU h2 k2)
    cases h
   cases h
  exact .map (iU h k)
 |i,.rows kt e c z::tS,l,h,k=>by
  simp only[jD]at h;simp only[uw,nH];split at h
  .rename_i a kt' c' hp;split at h
   .rename_i he;subst he;split at h;.rename_i y h2;cases h;obtain⟨k1,k2⟩:=k;cases(show c=c' from k1);exact .rows (iU h2 k2)
    cases h
   cases h
  exact .rows (iU h k)
variable {P:Program} {ty:fR} {tt:TypeId->Option TT} {T:eZ} {ι ι' w:kY} {S S':ai} {te mI:List TV} {env:List DV} {tS iM:List TB} {aK:bR} {call:bt} {yf:ej} {o:Oper} {aF nT:Nat} {B:List Nat} {r:TR} {ops:Array Oper} {L:Nat} {fn:FuncId} {jd:Bool}
theorem Og{v:TV}{c:Prop}(h:DL te o=some (v,c))(hc:c):bQ P ty tt te tS o=some (v,True):=by
 unfold DL at h;split at h
 .rename_i t x y _ ho;split at h;.rename_i a b h1 h2;cases h;have:jw P (do eqGuard .add t x y (.int .i64 a) (.int .i64 b);binOp .add t (.int .i64 a) (.int .i64 b))=some (.val (.int .i64 (IntKind.i64.wrap (a+b)))):=rfl;simp only[bQ,ho,h1,h2,cn,iE,this,xo,ay,Dv hc.1 hc.2]
  cases h
 .rename_i t x y _ ho;split at h;.rename_i a b h1 h2;cases h;have:jw P (do eqGuard .sub t x y (.int .i64 a) (.int .i64 b);binOp .sub t (.int .i64 a) (.int .i64 b))=some (.val (.int .i64 (IntKind.i64.wrap (a-b)))):=rfl;simp only[bQ,ho,h1,h2,cn,iE,this,xo,ay,Dv hc.1 hc.2]
  cases h
 .rename_i t x y _ ho;split at h;.rename_i a b h1 h2;cases h;have:jw P (do eqGuard .mul t x y (.int .i64 a) (.int .i64 b);binOp .mul t (.int .i64 a) (.int .i64 b))=some (.val (.int .i64 (IntKind.i64.wrap (a*b)))):=rfl;simp only[bQ,ho,h1,h2,cn,iE,this,xo,ay,Dv hc.1 hc.2]
  cases h
 .rename_i t x ho;split at h
  .rename_i a h1;cases h;have:jw P (Op.unary .neg (.int .i64 a))=some (.val (.int .i64 (IntKind.i64.wrap (-a)))):=by rw[<-Int.zero_sub];rfl
   simp only[bQ,ho,h1,cn,iE,this,xo,ay,Dv hc.1 hc.2]
  cases h
 .rename_i t x y _ ho;split at h
  .rename_i a b h1 h2;cases h;have:jw P (do eqGuard .and t x y (.int .i64 a) (.int .i64 b);binOp .and t (.int .i64 a) (.int .i64 b))=some (.val (.int .i64 (HZ a b))):=by cases a<;>rfl
   simp only[bQ,ho,h1,h2,cn,iE,this,xo,ay]
  cases h
 cases h
theorem aa7{t:TypeId}{xs ys:Array Value}{b:Bool}(ht:P.underlying t=some (.struct (P.fieldsOf t)))(hp:P.stoodInHeld t=false)(hm:P.eqGuardType P.depth t=false)(hf:cu P (Op.eqFields 9999 xs ys (P.fieldsOf t).toList)=some b)(x y:Operand):
  jw P (do eqGuard .eql t x y (.agg xs) (.agg ys);binOp .eql t (.agg xs) (.agg ys))=some (.val (.bool b)):=by
 have h1:cu P (eqGuard .eql t x y (.agg xs) (.agg ys))=some ():=by simp only[eqGuard];simp only[gn,aI,if_false,cR,nM,cn,hm,vL,if_true];rfl
 have h2:cu P (binOp .eql t (.agg xs) (.agg ys))=some (.bool b):=by simp only[binOp,cR,Op.equal,Op.maxDepth,tg 9999 t xs ys ht hp,hf,cn];rfl
 rw[jw,cR,h1,cn,h2];rfl
theorem Qe{xs ys:Array Value}{fs:List Field}{b:Bool}(h:adj P xs ys fs=some b):cu P (Op.eqFields 9999 xs ys fs)=some b:=Ep (λ_ _ _ _ h=>Nr (by omega) h) h
theorem XR{b:Bool}(h:TW P te o=some b):bQ P ty tt te tS o=some (.val (.bool b),True):=by
 unfold TW at h;split at h
 .rename_i t x y _ ho;split at h
  .rename_i xs ys h1 h2;split at h;.rename_i fs h3 h4 h5;simp only[af]at h;obtain⟨r,h6,rfl⟩:=h;have e:=aa6 (P:=P) (tc h3) h4 h5 (b:=r) (by simp only[Program.fieldsOf,h3];exact Qe h6) x y;simp only[bQ,ho,h1,h2,e,xo,ay]
   cases h
  cases h
 .rename_i t x y _ ho;split at h
  .rename_i xs ys h1 h2;split at h;.rename_i fs h3 h4 h5;have e:=aa7 (P:=P) (tc h3) h4 h5 (b:=b) (by simp only[Program.fieldsOf,h3];exact Qe h) x y;simp only[bQ,ho,h1,h2,e,xo,ay]
   cases h
  cases h
 cases h
end Go.Tv
namespace Go.Tv
open Go Go.Di Go.Proofs
variable {P:Program} {ty:fR} {tt:TypeId->Option TT} {T:eZ} {ι ι' w:kY} {S S':ai} {te mI:List TV} {env:List DV} {tS iM:List TB} {aK:bR} {call:bt} {yf:ej} {o:Oper} {aF nT:Nat} {B:List Nat} {r:TR} {ops:Array Oper} {L:Nat} {fn:FuncId} {jd:Bool} {fs:List de}
theorem On{md:Nat}(h:md<=2):md=0\/md=1\/md=2:=by omega
theorem Xn{α β:Type}{x:Option α}{f:α->β}{q:β×Prop}(h:x.map (λa=>(f a,True))=some q):q.2:=by simp only[af]at h;obtain⟨_,_,rfl⟩:=h;trivial
theorem K5{q:TV×Prop}(hc:AE o=false)(h:bQ P ty tt te tS o=some q):q.2:=by
 unfold AE at hc;unfold bQ at h;cases ho:o.op;all_goals simp only[ho]at hc h
 all_goals try(cases hc;done)
 all_goals repeat' (split at h)
 all_goals first
  |(cases h;done)
  |(cases h;trivial)
  |exact Xn h
  |(simp only[af]at h;obtain⟨_,_,rfl⟩:=h;trivial)
theorem Xe{q:TR}(hc:AE o=false)(h:stepT P ty tt te tS o nT=some q):q.c:=by
 have hp:∀{q:TR},((bQ P ty tt te tS o).map λr=>(⟨r.1,te,tS,lu te o,r.2⟩:TR))=some q->q.c:=by intro q h;simp only[af]at h;obtain⟨a,h1,rfl⟩:=h;exact K5 hc h1
 unfold stepT at h;split at h
 .split at h;.cases h;trivial
  cases h
 .split at h
  .split at h;.cases h;trivial
   cases h
  cases h
 .split at h
  .split at h
   .split at h;.simp only[af]at h;obtain⟨_,_,rfl⟩:=h;trivial
    cases h
   cases h
  cases h
 .rename_i ho;simp only[AE,ho]at hc;cases hc
 exact hp h
def Nb(o:Oper):Prop:=(∃op t x y u,o.op=.binOp op t x y u)\/∃op t x,o.op=.unOp op t x
theorem zQ{v:TV}(hb:Nb o)(h:bQ P ty tt te tS o=some (v,True)):stepT P ty tt te tS o nT=some ⟨v,te,tS,[],True⟩:=by rcases hb with ⟨op,t,x,y,u,ho⟩|⟨op,t,x,ho⟩<;>simp only[stepT,ho,h,ay,lu]
theorem Sw{v:TV}{c:Prop}(h:DL te o=some (v,c)):Nb o:=by
 unfold DL at h;split at h;.rename_i ho;exact .inl ⟨_,_,_,_,_,ho⟩
 .rename_i ho;exact .inl ⟨_,_,_,_,_,ho⟩
 .rename_i ho;exact .inl ⟨_,_,_,_,_,ho⟩
 .rename_i ho;exact .inr ⟨_,_,_,ho⟩
 .rename_i ho;exact .inl ⟨_,_,_,_,_,ho⟩
 cases h
theorem aa8{b:Bool}(h:TW P te o=some b):Nb o:=by
 unfold TW at h;split at h;.rename_i ho;exact .inl ⟨_,_,_,_,_,ho⟩
 .rename_i ho;exact .inl ⟨_,_,_,_,_,ho⟩
 cases h
theorem ae0(hb:Nb o):nP o=false:=by rcases hb with ⟨op,t,x,y,u,ho⟩|⟨op,t,x,ho⟩<;>simp only[nP,ho]
theorem Lu{g:FuncId}{targs:List TV}(h:OQ tt te o=some (g,targs)):∃f args argTypes fs cs xs,o.op=.call {callee:=.value f,args,argTypes}/\fK te f=some (.fn g fs cs)/\lS te args.toList=some xs/\(fs++xs++cs).all eM=true/\bL (gf tt fs argTypes) (fs++xs++cs)=targs:=by
 unfold OQ at h;split at h
 .rename_i f args argTypes ho;split at h
  .rename_i g' fs cs xs h1 h2;split at h;.rename_i h3;cases h;exact⟨f,args,argTypes,fs,cs,xs,ho,h1,h2,h3,rfl⟩
   cases h
  cases h
 cases h
theorem RL{g:FuncId}{kp:Nat}{targs ts:List TV}(h:M8 tt te tS o=some (g,kp,targs,ts)):∃f args argTypes fs cs xs,o.op=.call {callee:=.value f,args,argTypes}/\fK te f=some (.fn g fs cs)/\lS te args.toList=some xs/\yI kp (gf tt fs argTypes) (fs++xs++cs)=some targs/\(fs++xs++cs).any isRef=true/\tS[kp]? =some (.cells ts)/\eW ts=[]:=by
 unfold M8 at h;split at h
 .rename_i f args argTypes ho;split at h
  .rename_i g' fs cs xs h1 h2;split at h
   .split at h
    .rename_i h4 h5;split at h;.rename_i h6;simp only[aC,y7]at h6;cases h;exact⟨f,args,argTypes,fs,cs,xs,ho,h1,h2,h4,h6.1,h5,h6.2⟩
     cases h
    cases h
   cases h
  cases h
 cases h
theorem RM{g:FuncId}{kp:Nat}{targs ts:List TV}(h:M9 tt te tS o=some (g,kp,targs,ts)):∃f args argTypes fs cs xs off rest,o.op=.call {callee:=.value f,args,argTypes}/\fK te f=some (.fn g fs cs)/\lS te args.toList=some xs/\fs++xs++cs=.ptr kp off::rest/\rest.all eM=true/\tS[kp]? =some (.cells ts)/\ts.all kL=true/\targs=.ptr 0 off::bL (gf tt fs argTypes).tail rest:=by
 unfold M9 at h;split at h
 .rename_i f args argTypes ho;split at h
  .rename_i g' fs cs xs h1 h2;split at h
   .rename_i kp' off rest hl;split at h
    .rename_i Ac h5;split at h;.rename_i h6;simp only[aC]at h6;cases h;exact⟨f,args,argTypes,fs,cs,xs,off,rest,ho,h1,h2,hl,h6.1,h5,h6.2,rfl⟩
     cases h
    cases h
   cases h
  cases h
 cases h
theorem Lk{md:Nat}{v:TV}{cs:List TV}{K:Prop}(h:Ka md v cs K):(md=2->BF v=true/\cs.all kL=true)/\K:=by
 unfold Ka at h;split at h
 .split at h;.rename_i h1;simp only[aC]at h1;exact⟨λ_=>h1,h⟩
  exact h.elim
 rename_i hn;exact⟨λe=>(hn e).elim,h⟩
def vT(call:bt)(g:FuncId)(A:List TV)(tS:List TB)(K:TV->List TB->Prop):Prop:=
 ∀ι bJ S,bT ι A tS bJ S->∃d S' ι' v bN,call g bJ S=some (d,S')/\bT ι' [v] bN [d] S'/\oE (dF 0 tS) bN/\Fr (dF 0 tS) ι S ι' S'/\Nn S.length S S'/\K v bN
theorem XN{f:Operand}{args:Array Operand}{argTypes:Array TypeId}{g:FuncId}{fs cs xs:List TV}{K:TV->List TB->Prop}(hop:o.op=.call {callee:=.value f,args,argTypes})(hf:fK te f=some (.fn g fs cs))(ha:lS te args.toList=some xs)(hr:(fs++xs++cs).any isRef=true\/ty.h o=1)
  (hc:vT call g (fs++xs++cs) tS K):Does P ty aK call yf B o nT te tS false λv bX bN _=>bX=ga tS te/\K v bN:=by
 intro ι w env S aF hR hB hw hT Fe hS;obtain⟨xh,lC,Fj,k1,k2,k3⟩:=iL hR.env hf ha;obtain⟨d,S',ι',v,bN,m1,m2,m3,m4,m5,m6⟩:=hc ι _ S ⟨k3,hR.cells,hR.own,hR.ql,hR.inj,hR.mp⟩;obtain⟨w',hw'⟩:=MS m2;obtain⟨_,_,e,m7,-⟩:=aj m2.env;cases e;have MI:∀k,k∈B->k∈dF 0 tS:=λk hk=>by obtain⟨l,h1⟩:=hB k hk;exact rR h1
 refine⟨d,S',ι',w',v,ga tS te,bN,⟨none,true⟩,⟨none,true⟩,λ_=>?_,λe=>(by cases e),⟨λe=>e,λl hl=>(by cases hl)⟩,λl m hl=>(by cases hl),⟨j4 (λk hk=>?_) _ _ hR.env,m2.cells,m2.own,m2.ql,m2.inj,m2.mp⟩,m7,hw',λe=>(by cases e),⟨m4.rest,m4.ours,λk hk=>m4.base k (MI k hk)⟩,λk hk=>m3 k (MI k hk),⟨m5.1,λj hj dm=>m5.2 j (by have:=(aA.1 dm).1;omega) dm⟩,rfl,m6⟩
 .rcases hr with hr|hr;.have:=nu hr k3;simp only[ah,hop,k1,k2,wO,this,aI,if_false,m1];split<;>rfl
  simp only[ah,hop,k1,k2,hr,m1]
 unfold jV at hk;split at hk;.rename_i c hc;exact m4.base k (Lh hc)
 cases hk
theorem aaL{md:Nat}{A:List TV}{fn:Func}{j:List (Nat×LA)}(h:acP ty T md te o=some (A,fn,j)):md=0/\∃f args argTypes g fs cs xs,o.op=.call {callee:=.value f,args,argTypes}/\fK te f=some (.fn g fs cs)/\lS te args.toList=some xs/\((fs++xs++cs).any isRef=true\/ty.h o=1)/\A=fs++xs++cs/\T.X g=some (fn,j):=by
 unfold acP at h;split at h
 .split at h
  .rename_i g A' h1;split at h
   .rename_i vr j' h2;cases h;unfold afh at h1;split at h1
    .rename_i f args argTypes ho;split at h1
     .rename_i g' fs cs xs e1 e2;split at h1;.rename_i hr;cases h1;exact⟨rfl,f,args,argTypes,g,fs,cs,xs,ho,e1,e2,by simpa using hr,rfl,h2⟩
      cases h1
     cases h1
    cases h1
   cases h
  cases h
 cases h
theorem rQ{b:Bool}{c:Prop}(h:acK ty te o=some (b,c))(hc:c):(∃op t x y u,o.op=.binOp op t x y u)/\∀{env:List DV},cK ι S te env->∀aF,ah P ty aK call yf (jr env) o S aF=some (.val (.bool b),S):=by
 unfold acK at h;split at h
 .rename_i t x y _ ho;refine⟨⟨_,_,_,_,_,ho⟩,λ{env} hE aF=>?_⟩;split at h
  .rename_i h1 h2 h3;cases h;obtain⟨d1,k1,k2⟩:=bE hE h2;obtain⟨d2,k3,k4⟩:=bE hE h3;cases d1<;>simp only[RT]at k2;cases d2<;>simp only[RT]at k4;obtain⟨rfl,rfl,rfl⟩:=k4;rename_i rows tok f;have hr:rows.isEmpty=false:=by
    have:=kN k2.1;cases rows with
    |nil=>exact absurd (eS (by simpa using this.symm)) hc
    |cons=>rfl
   simp only[ah,ho,valOf,k1,k3,cn,Br,Dz,h1,MF,hr,aI,if_false,ay]
  .rename_i h1 h2 h3;cases h;obtain⟨d1,k1,k2⟩:=bE hE h2;obtain⟨d2,k3,k4⟩:=bE hE h3;cases d1<;>simp only[RT]at k2;cases d2<;>simp only[RT]at k4;obtain⟨rfl,rfl,rfl⟩:=k4;obtain⟨rfl,rfl,rfl⟩:=k2;simp only[ah,ho,valOf,k1,k3,cn,Br,Dz,h1,MF,List.isEmpty_nil,if_true,ay]
  cases h
 cases h
theorem Ll{b:Value}(hb:∃op t x y u,o.op=.binOp op t x y u)(h:∀{ι:kY}{S:ai}{env:List DV},cK ι S te env->∀aF,ah P ty aK call yf (jr env) o S aF=some (.val b,S))(dr:Bool):Does P ty aK call yf B o nT te tS dr λv bX bN ft=>v=.val b/\bX=te/\bN=tS/\ft=⟨some [],false⟩:=by intro ι w env S aF hR hB hw hT hn hS;obtain⟨op,t,x,y,u,ho⟩:=hb;refine⟨.val b,S,ι,w,.val b,te,tS,⟨some [],false⟩,⟨some [],false⟩,λ_=>h hR.env aF,λ_=>?_,⟨id,λl hl=>⟨[],rfl,λj hj=>(by cases hj)⟩⟩,λl m _ hm j hj=>(by cases hm;cases hj),hR,by simp only[RT],hw,λ_ _ _=>rfl,Fr.refl _ _ _,hB,gF _ _,rfl,rfl,rfl,rfl⟩;have:=h hR.env aF;simp only[aM,ho];rw[this];rfl
theorem adN{k:Nat}{b:Value}{Q:List TV->Prop}(ho:ops[k]? =some o)(hw:ez ops te o=some true)(hb:∃op t x y u,o.op=.binOp op t x y u)(h:∀{ι:kY}{S:ai}{env:List DV},cK ι S te env->∀aF,ah P ty aK call yf (jr env) o S aF=some (.val b,S))(hq:WQ P ty aK call yf ops tS (k+1) (j8 te o.dst (.val b)) Q):WQ P ty aK call yf ops tS k te Q:=by
 intro ι env S hR;obtain⟨aL,bX,n1,n2,n3⟩:=hq ι (ku env o.dst (.val b)) S (oL hR (by simp only[RT]) _);refine⟨aL,bX,?_,n2,n3⟩;rw[oR ho];have hs:=h hR.env S.length;obtain⟨op,t,x,y,u,hop⟩:=hb;have hq:dD P ty aK call yf (jr env) o S=some (.val b):=by simp only[dD,hop];rw[hs];rfl
 simp only[qU,iJ hR.env hw,if_true,hq,n1]
def xl(P:Program)(ty:fR)(aK:bR)(call:bt)(yf:ej)(B:List Nat)(ops:Array Oper)(Q:List TV->List TB->Prop)(md:Nat)(ny:List TB)(k:Nat)(te:List TV)(tS:List TB)(fs:List de):Prop:=
 match md with
 |0=>WL P ty aK call yf B ops k te tS Q
 |1=>tS=ny->WQ P ty aK call yf ops ny k te λte=>Q te ny
 |_=>WD P ty aK call yf B ops k te tS fs Q
theorem IG{Q:List TV->List TB->Prop}{md k:Nat}{ny:List TB}(qu:md<=2)(ho:ops[k]? =some o)(hw:ez ops te o=some false){K:KO}(hK:∀te tS fs,K te tS fs->xl P ty aK call yf B ops Q md ny (k+1) te tS fs)(h:OE o te tS fs K):xl P ty aK call yf B ops Q md ny k te tS fs:=by
 have h1:=hK _ _ _ (eP (K:=λte=>K te tS (fs++[gy])) h);rcases On qu with rfl|rfl|rfl;.exact Zy ho hw h1
 .exactλe=>Zx ho hw (h1 e)
 exact ZE ho hw h1
variable {inl:Inl}
structure wS (P:Program) (ty:fR) (call:bt) (yf:ej) (T:eZ) (inl:Inl):Prop where
 c:∀g fn j A tS (K:TV->List TB->Prop),T.X g=some (fn,j)->inl.c fn j A tS K->vT call g A tS K
 y:∀k sC Ad xs tS (K:List TB->Prop),inl.y k sC Ad xs tS K->∃ps oD body HP yH Yq,Cq sC=some (ps,oD,body)/\yf=uK P ty HP yH Yq LL/\xs.length=ps.length/\(eW (oz Ad (ps.zip xs))++oA tS).contains k=false/\WT P ty HP yH Yq (ou k tS) LL sC true oD (oz Ad (ps.zip xs)) (tS.set k .none) λe mI iM=>e=.normal/\WT P ty HP yH Yq (ou k tS) LL sC true body mI iM λe _ jQ=>e=.normal/\jQ[k]? =some .none/\K jQ
theorem Zq{md k:Nat}{sC:FuncId}{Ad xs:List TV}(h:acp md te tS o=some (k,sC,Ad,xs)):md≠1/\∃f args argTypes,o.op=.call {callee:=.value f,args,argTypes}/\fK te f=some (.od k sC Ad)/\lS te args.toList=some xs/\tS[k]? =some .loop:=by
 unfold acp at h;split at h
 .rename_i f args argTypes hm ho;split at h
  .rename_i k' aiX aiI e1;split at h;.rename_i Fj e2 e3;cases h;exact⟨by simpa using hm,f,args,argTypes,ho,e1,e2,e3⟩
   cases h
  cases h
 cases h
def MR(ty:fR)(md:Nat)(o:Oper)(tX:List TV)(tR:List TB)(te:List TV)(tS:List TB):Prop:=
 match md with
 |0=>MC ty tX tR o=some (te,tS)
 |_=>tX=te/\tR=tS
theorem K9(hT:qy T aK call){Q:List TV->List TB->Prop}{md n0 k:Nat}{ny tR:List TB}{tX:List TV}(qu:md<=2)(ho:ops[k]? =some o)(hw:ez ops tX o=some true)(nO:MR ty md o tX tR te tS){K:KO}(hK:∀te tS fs,K te tS fs->xl P ty aK call yf B ops Q md ny (k+1) te tS fs)
  (hn:Ak tS (ot md n0 k tS)=true) (hh:md=0\/ty.h o≠1) (h:Ik tt T md o te tS fs K):xl P ty aK call yf B ops Q md ny k tX tR fs:=by
 unfold Ik at h;split at h
 .rename_i g L targs tP hc;obtain⟨f,args,argTypes,fs1,cs1,xs,c1,c2,c3,c4,c5,c6,c7,c8,c9,c10⟩:=R6 (tt:=tt) hc;split at h
  .rename_i p s hm hs;obtain⟨hp,h⟩:=iW h;have hsp:=hT.M _ _ _ _ _ hs hp;have all:∀v t,s.holds v (t.map .agg)->∃tB,HN L t=some tB/\xl P ty aK call yf B ops Q md ny (k+1) (j8 te o.dst v) (yl L tB tS) (fs++[Gl md L]):=λv t hv=>by
    have h1:=Hx (R:=λv cs=>adq L cs λtB=>gz v λv=>gq te o.dst v λte=>bW (yl L tB tS) λtS=>K te tS (fs++[Gl md L])) h hv;unfold adq at h1;rw[Gs]at h1;simp only at h1;split at h1;.rename_i tB hb;exact⟨tB,hb,hK _ _ _ (cI _ (K:=λtS=>K _ tS (fs++[Gl md L])) (eP (K:=λte=>bW (yl L tB tS) λtS=>K te tS (fs++[Gl md L])) (gC v (K:=λv=>gq te o.dst v λte=>bW (yl L tB tS) λtS=>K te tS (fs++[Gl md L])) h1)))⟩
    exact h1.elim
   rcases On qu with rfl|rfl|rfl;.refine lg ho hw nO (Oe c1 c2 c3 c4 c7 c8 c9 hsp λv t hv=>(all v t hv).imp λ_ h=>h.1) ?_;rintro v bX bN ft ⟨t,tB,hv,hb,rfl,rfl,-⟩;obtain⟨tB',e1,e2⟩:=all v t hv;rw[hb]at e1;cases e1;exact e2
   .cases hm
   obtain⟨rfl,rfl⟩:=nO;obtain⟨d1,d2,d3⟩:=c10 (by decide);refine tE ho hw hn (L4 (tt:=tt) c1 (hh.resolve_left (by decide)) c2 c3 c4 c5 c6 d1 d2 d3 c7 c8 c9 hsp λv t hv=>(all v t hv).imp λ_ h=>h.1) ?_;rintro v bX bN ft ⟨t,tB,hv,hb,rfl,rfl,rfl⟩;obtain⟨tB',e1,e2⟩:=all v t hv;rw[hb]at e1;cases e1;exact e2
  exact h.elim
 exact h.elim
theorem KW(hT:qy T aK call){Q:List TV->List TB->Prop}{md n0 k:Nat}{ny tR:List TB}{tX:List TV}(qu:md<=2)(ho:ops[k]? =some o)(hw:ez ops tX o=some true)(nO:MR ty md o tX tR te tS){K:KO}(hK:∀te tS fs,K te tS fs->xl P ty aK call yf B ops Q md ny (k+1) te tS fs)
  (hn:Ak tS (ot md n0 k tS)=true) (hh:md=0\/ty.h o≠1) (h:Ig tt T md o te tS fs K):xl P ty aK call yf B ops Q md ny k tX tR fs:=by
 unfold Ig at h;split at h
 .rename_i g kp targs ts hc;split at h
  .rename_i p s hs;obtain⟨hp,h⟩:=iW h;have hsp:=hT.C _ _ _ _ _ hs hp;have all:∀v cs,s.holds v cs->Ka md v cs (gz v λv=>gq te o.dst v λte=>dc cs λcs=>bW (tS.set kp (.cells cs)) λtS=>K te tS (fs++[Dq md kp])):=λv cs hv=>
    Hx (R:=λv cs=>Ka md v cs (gz v λv=>gq te o.dst v λte=>dc cs λcs=>bW (tS.set kp (.cells cs)) λtS=>K te tS (fs++[Dq md kp]))) h hv
   have fin:∀v cs,s.holds v cs->xl P ty aK call yf B ops Q md ny (k+1) (j8 te o.dst v) (tS.set kp (.cells cs)) (fs++[Dq md kp]):=λv cs hv=>by have h1:=eP (gC v (K:=λv=>gq te o.dst v λte=>dc cs λcs=>bW (tS.set kp (.cells cs)) λtS=>K te tS (fs++[Dq md kp])) (Lk (all v cs hv)).2);exact hK _ _ _ (cI _ (K:=λtS=>K _ tS (fs++[Dq md kp])) (cg cs (K:=λcs=>bW (tS.set kp (.cells cs)) λtS=>K _ tS (fs++[Dq md kp])) h1))
   rcases On qu with rfl|rfl|rfl;.obtain⟨f,args,argTypes,fs1,cs1,xs,c1,c2,c3,c4,c5,c6,c7⟩:=RL (tt:=tt) hc;refine lg ho hw nO (Ob c1 c2 c3 c4 c5 c6 c7 hsp) ?_;rintro v bX bN ft ⟨Ac,hv,rfl,rfl,-⟩;exact fin v Ac hv
   .cases hc
   obtain⟨f,args,argTypes,fs1,cs1,xs,off,rest,c1,c2,c3,c4,c5,c6,c7,rfl⟩:=RM (tt:=tt) hc;obtain⟨rfl,rfl⟩:=nO;refine tE ho hw hn (L0 (tt:=tt) c1 (hh.resolve_left (by decide)) c2 c3 c4 c5 c6 c7 hsp λv cs hv=>(Lk (all v cs hv)).1 rfl) ?_;rintro v bX bN ft ⟨Ac,hv,rfl,rfl,rfl⟩;exact fin v Ac hv
  exact K9 hT qu ho hw nO hK hn hh h
 exact K9 hT qu ho hw nO hK hn hh h
theorem abc(hT:qy T aK call)(hI:wS P ty call yf T inl){Q:List TV->List TB->Prop}{md n0 k:Nat}{ny tR:List TB}{tX:List TV}(qu:md<=2)(ho:ops[k]? =some o)(hw:ez ops tX o=some true)(nO:MR ty md o tX tR te tS){K:KO}(hK:∀te tS fs,K te tS fs->xl P ty aK call yf B ops Q md ny (k+1) te tS fs)
  (hn:Ak tS (ot md n0 k tS)=true) (h:UK ty tt T inl md (ot md n0 k tS) o te tS fs K):xl P ty aK call yf B ops Q md ny k tX tR fs:=by
 unfold UK at h;split at h
 .rename_i k' sC Ad xs hx;obtain⟨hm,f,args,argTypes,c1,c2,c3,c4⟩:=Zq hx;obtain⟨ps,oD,body,HP,yH,Yq,hrf,hyf,hlen,hr,hw'⟩:=hI.y _ _ _ _ _ _ h;have hd:∀nT dr,Does P ty aK call yf B o nT te tS dr λv bX bN ft=>∃jQ,acr o te tS fs K k' jQ/\v=.val (.bool true)/\bX=te.map (uB tS k')/\bN=pJ k' 0 tS (jQ.set k' .loop)/\ft=⟨none,true⟩:=λnT dr=>N9 c1 hyf c2 hrf c3 c4 hlen hr hw' λjQ hk=>by obtain⟨h0,-⟩:=gU hk;simp only[aC,aX]at h0;exact h0
  have fin:∀jQ,acr o te tS fs K k' jQ->xl P ty aK call yf B ops Q md ny (k+1) (j8 (te.map (uB tS k')) o.dst (.val (.bool true))) (pJ k' 0 tS (jQ.set k' .loop)) (fs++[⟨none,true⟩]):=λjQ hk=>by obtain⟨-,hk⟩:=gU hk;exact hK _ _ _ (cI _ (K:=λtS=>K _ tS (fs++[⟨none,true⟩])) (eP (K:=λte=>bW (pJ k' 0 tS (jQ.set k' .loop)) λtS=>K te tS (fs++[⟨none,true⟩])) (cg _ (K:=λte=>gq te o.dst (.val (.bool true)) λte=>bW (pJ k' 0 tS (jQ.set k' .loop)) λtS=>K te tS (fs++[⟨none,true⟩])) hk)))
  rcases On qu with rfl|rfl|rfl;.refine lg ho hw nO (hd _ false) ?_;rintro v bX bN ft ⟨jQ,hv,rfl,rfl,rfl,rfl⟩;exact fin jQ hv
  .exact(hm rfl).elim
  obtain⟨rfl,rfl⟩:=nO;refine tE ho hw hn (hd _ true) ?_;rintro v bX bN ft ⟨jQ,hv,rfl,rfl,rfl,rfl⟩;exact fin jQ hv
 split at h;.rename_i A fn j hx;obtain⟨rfl,f,args,argTypes,g,fs1,cs1,xs,c1,c2,c3,c4,rfl,c5⟩:=aaL hx;refine lg ho hw nO (XN c1 c2 c3 c4 (hI.c g fn j _ tS _ c5 h)) ?_;rintro v bX bN ft ⟨rfl,hv⟩;exact hK _ _ _ (eP (K:=λte=>K te bN fs) (cg (ga tS te) (K:=λte=>gq te o.dst v λte=>K te bN fs) (gC v (K:=λv=>dc (ga tS te) λte=>gq te o.dst v λte=>K te bN fs) hv)))
 split at h
 .rename_i hh
  replace hh:ty.h o=1:=by simpa using hh
  split at h;.exact KW hT qu ho hw nO hK hn (.inl rfl) h
  .rename_i g targs hc _ _;obtain⟨f,args,argTypes,fs1,cs1,xs,c1,c2,c3,c4,c5⟩:=Lu hc;split at h;.rename_i p e s hs;obtain⟨hp,h⟩:=iW h;obtain⟨rfl,rfl⟩:=nO;refine tE ho hw hn (Oa c1 hh c2 c3 c4 c5 (hT.O _ _ _ _ _ hs hp)) ?_;rintro v bX bN ft ⟨t,CG,hv,rfl,rfl,rfl,rfl⟩;have h1:=E4 (R:=λv=>Un e (ot 2 n0 k tR) v λv b=>gz v λv=>gq bX o.dst v λte=>bW (oG tR (ot 2 n0 k tR) b) λtS=>K te tS (fs++[⟨some [ot 2 n0 k tR],true⟩])) h hv;simp only[Un]at h1;exact hK _ _ _ (cI _ (K:=λtS=>K _ tS (fs++[⟨some [ot 2 n0 k tR],true⟩])) (eP (gC _ (K:=λv=>gq bX o.dst v λte=>bW (oG tR (ot 2 n0 k tR) (.own e t.size)) λtS=>K te tS (fs++[⟨some [ot 2 n0 k tR],true⟩])) h1)))
   exact h.elim
  exact h.elim
 rename_i hh
 replace hh:ty.h o≠1:=by simpa using hh
 split at h
 .rename_i g targs hc;obtain⟨f,args,argTypes,fs1,cs1,xs,c1,c2,c3,c4,c5⟩:=Lu hc;split at h
  .rename_i p s hm hs;have hm:md=0:=by simpa using hm
   subst hm;obtain⟨hp,h⟩:=iW h;refine lg ho hw nO (Od c1 hh c2 c3 c4 c5 (hT.N _ _ _ _ hs hp)) ?_;rintro v bX bN ft ⟨ts,hq,rfl,rfl,rfl⟩;have e:oG tS tS.length (.cells ts)=tS++[.cells ts]:=by unfold oG;rw[if_neg (Nat.lt_irrefl _)]
   rw[e];exact hK _ _ _ (eP (K:=λte=>K te (tS++[.cells ts]) fs) (Oh (R:=λcs=>gq bX o.dst (.ptr tS.length 0) λte=>K te (tS++[.cells cs]) fs) h hq))
  split at h
  .rename_i p s hs;obtain⟨hp,h⟩:=iW h;have hsp:=hT.I _ _ _ _ hs hp;have fin:∀v,s.ow v->xl P ty aK call yf B ops Q md ny (k+1) (j8 te o.dst v) tS (fs++[gy]):=λv hv=>
    hK _ _ _ (eP (K:=λte=>K te tS (fs++[gy])) (gC v (K:=λv=>gq te o.dst v λte=>K te tS (fs++[gy])) (E4 (R:=λv=>gz v λv=>gq te o.dst v λte=>K te tS (fs++[gy])) h hv)))
   rcases On qu with rfl|rfl|rfl
   .skip
    refine lg ho hw nO (E3 c1 hh c2 c3 c4 c5 hsp false) ?_;rintro v bX bN ft ⟨hv,rfl,rfl,-⟩;exact fin v hv
   .obtain⟨rfl,rfl⟩:=nO;exactλe=>VY ho hw c1 hh c2 c3 c4 c5 hsp λv hv=>fin v hv e
   skip
   obtain⟨rfl,rfl⟩:=nO;refine tE ho hw hn (E3 c1 hh c2 c3 c4 c5 hsp true) ?_;rintro v bX bN ft ⟨hv,rfl,rfl,rfl⟩;exact fin v hv
  exact h.elim
 exact KW hT qu ho hw nO hK hn (.inr hh) h
theorem KS{Q:List TV->List TB->Prop}{md n0 k:Nat}{ny tR:List TB}{tX:List TV}(qu:md<=2)(ho:ops[k]? =some o)(hw:ez ops tX o=some true)(nO:MR ty md o tX tR te tS){K:KO}(hK:∀te tS fs,K te tS fs->xl P ty aK call yf B ops Q md ny (k+1) te tS fs)
  (hn:Ak tS (ot md n0 k tS)=true) {v:TV} (hb:Nb o) (hp:bQ P ty tt te tS o=some (v,True)) (h:gq te o.dst v λte=>K te tS (fs++[gy])):xl P ty aK call yf B ops Q md ny k tX tR fs:=by
 have h1:=hK _ _ _ (eP (K:=λte=>K te tS (fs++[gy])) h);rcases On qu with rfl|rfl|rfl
 .skip
  refine lg ho hw nO (lM (zQ hb hp) trivial false) ?_;rintro v' bX bN ft ⟨rfl,rfl,rfl,-⟩;exact h1
 .obtain⟨rfl,rfl⟩:=nO;exactλe=>Iz ho hw (e▸hp) trivial (h1 e)
 skip
 obtain⟨rfl,rfl⟩:=nO;refine tE ho hw hn (lM (zQ hb hp) trivial true) ?_;rintro v' bX bN ft ⟨rfl,rfl,rfl,rfl⟩;rw[ae0 hb];exact h1
theorem Ve(hT:qy T aK call)(hI:wS P ty call yf T inl){Q:List TV->List TB->Prop}{md n0 k:Nat}{ny tR:List TB}{tX:List TV}(qu:md<=2)(ho:ops[k]? =some o)(hw:ez ops tX o=some true)(nO:MR ty md o tX tR te tS){K:KO}(hK:∀te tS fs,K te tS fs->xl P ty aK call yf B ops Q md ny (k+1) te tS fs)
  (h:YZ P ty tt T inl md n0 k o te tS fs K):xl P ty aK call yf B ops Q md ny k tX tR fs:=by
 unfold YZ at h;split at h;.exact h.elim
 rename_i hn;split at h;.exact abc hT hI qu ho hw nO hK hn h
 split at h
 .rename_i v bX bN f c hm;obtain⟨hc,h⟩:=h;have h1:=eP (cg bX (K:=λte=>gq te o.dst v λte=>bW bN λtS=>K te tS (fs++[f])) (gC v (K:=λv=>dc bX λte=>gq te o.dst v λte=>bW bN λtS=>K te tS (fs++[f])) h));have h1:=hK _ _ _ (cI bN (K:=λtS=>K _ tS (fs++[f])) h1);unfold abK at hm;split at hm
  .rename_i v2 g c2 hr;cases hm;rcases On qu with rfl|rfl|rfl;.refine lg ho hw nO (E2 hr hc false) ?_;rintro v' SZ jQ ft ⟨rfl,rfl,rfl,rfl⟩;exact h1
   .obtain⟨rfl,rfl⟩:=nO;exactλe=>VX ho hw (e▸hr) hc (h1 e)
   obtain⟨rfl,rfl⟩:=nO;refine tE ho hw hn (E2 hr hc true) ?_;rintro v' SZ jQ ft ⟨rfl,rfl,rfl,rfl⟩;exact h1
  split at hm;.cases hm
  rename_i h91;split at hm
  .rename_i g jQ hs;cases hm;rcases On qu with rfl|rfl|rfl;.refine lg ho hw nO (E1 hs false) ?_;rintro v' SZ jQ ft ⟨rfl,rfl,rfl,rfl⟩;exact h1
   .exact absurd rfl h91
   obtain⟨rfl,rfl⟩:=nO;refine tE ho hw hn (E1 hs true) ?_;rintro v' SZ jQ ft ⟨rfl,rfl,rfl,rfl⟩;exact h1
  split at hm;.rename_i h90;subst h90;simp only[af,az]at hm;obtain⟨⟨v2,SZ,jQ,c2⟩,hs,rfl,rfl,rfl,rfl,rfl⟩:=hm;refine lg ho hw nO (Oc hs hc) ?_;rintro v' te3 tS3 ft ⟨rfl,rfl,rfl⟩;exact h1
  cases hm
 split at h
 .rename_i v bN c hm;have h0:md=0:=by
   unfold mapM at hm;split at hm;.rfl
   cases hm
  subst h0;refine lg ho hw nO (XM hm h.1) ?_;rintro v' bX jQ ft ⟨rfl,rfl,rfl⟩;have h1:=eP (gC v' (K:=λv=>gq bX o.dst v λte=>bW jQ λtS=>K te tS (fs++[⟨none,true⟩])) h.2);exact hK _ _ _ (cI jQ (K:=λtS=>K _ tS (fs++[⟨none,true⟩])) h1)
 split at h;.rename_i v c ha;exact KS qu ho hw nO hK hn (Sw ha) (Og (tt:=tt) ha h.1) h.2
 split at h;.rename_i b _ hb;exact KS qu ho hw nO hK hn (aa8 hb) (XR (tt:=tt) hb) h
 .rename_i b c _ _ hb;obtain⟨hc,h⟩:=h;have h1:=hK _ _ _ (eP (K:=λte=>K te tS (fs++[gy])) h);rcases On qu with rfl|rfl|rfl;.refine lg ho hw nO (Ll (rQ (P:=P) (aK:=aK) (call:=call) (yf:=yf) (ι:=fA) (S:=[]) hb hc).1 (λhE aF=>(rQ hb hc).2 hE aF) false) ?_;rintro v' bX bN ft ⟨rfl,rfl,rfl,-⟩;exact h1
  .obtain⟨rfl,rfl⟩:=nO;exactλe=>adN ho hw (rQ (P:=P) (aK:=aK) (call:=call) (yf:=yf) (ι:=fA) (S:=[]) hb hc).1 (λhE aF=>(rQ hb hc).2 hE aF) (h1 e)
  obtain⟨rfl,rfl⟩:=nO;refine tE ho hw hn (Ll (rQ (P:=P) (aK:=aK) (call:=call) (yf:=yf) (ι:=fA) (S:=[]) hb hc).1 (λhE aF=>(rQ hb hc).2 hE aF) true) ?_;rintro v' bX bN ft ⟨rfl,rfl,rfl,rfl⟩;exact h1
 have key:md≠1->∀q:TR,stepT P ty tt te tS o (ot md n0 k tS)=some q->q.c->K (j8 q.te o.dst q.v) q.tS (fs++[⟨some q.FI,nP o⟩])->xl P ty aK call yf B ops Q md ny k tX tR fs:=by
  intro hm q hq hc hk;have h1:=hK _ _ _ hk;rcases On qu with rfl|rfl|rfl
  .skip
   refine lg ho hw nO (lM hq hc false) ?_;rintro v' bX bN ft ⟨rfl,rfl,rfl,-⟩;exact h1
  .exact(hm rfl).elim
  skip
  obtain⟨rfl,rfl⟩:=nO;refine tE ho hw hn (lM hq hc true) ?_;rintro v' bX bN ft ⟨rfl,rfl,rfl,rfl⟩;exact h1
 split at h
 .split at h
  .rename_i q hq;have fin:∀{R:Prop},q.2->K (j8 te o.dst q.1) tS (fs++[gy])->xl P ty aK call yf B ops Q 1 ny k tX tR fs:=λ{_} hc hk=>by obtain⟨h8,h9⟩:=nO;subst h8 h9;exactλe=>Iz ho hw (e▸(show bQ P ty tt tX tR o=some (q.1,q.2)from hq)) hc (hK _ _ _ hk e)
   split at h;.exact fin (R:=True) h.1 (eP (K:=λte=>K te tS (fs++[gy])) (gC q.1 (K:=λv=>gq te o.dst v λte=>K te tS (fs++[gy])) h.2))
   rename_i pS;exact fin (R:=True) (K5 pS hq) (eP (K:=λte=>K te tS (fs++[gy])) (gC q.1 (K:=λv=>gq te o.dst v λte=>K te tS (fs++[gy])) h))
  exact h.elim
 rename_i hm;split at h
 .rename_i q hq;split at h;.refine key (λe=>hm e) q hq h.1 ?_;have h1:=cg q.te (gC q.v (K:=λv=>dc q.te λte=>gq te o.dst v λte=>bW q.tS λtS=>K te tS (fs++[⟨some q.FI,nP o⟩])) h.2);exact cI q.tS (K:=λtS=>K _ tS _) (eP h1)
  rename_i pS;refine key (λe=>hm e) q hq (Xe pS hq) ?_;have h1:=eP (gC q.v (K:=λv=>gq q.te o.dst v λte=>bW q.tS λtS=>K te tS (fs++[⟨some q.FI,nP o⟩])) h);exact cI q.tS (K:=λtS=>K _ tS _) h1
 exact h.elim
theorem KA{n:Int}{K:Nat->Prop}:∀(c j:Nat),MW n K c j->∃i:Nat,n=i/\K i
 |0,_,h=>h.elim
 |c+1,j,h=>by
  obtain⟨h1,h2⟩:=vU h;by_cases e:n=(j:Int);.exact⟨j,e,h1 (eF e)⟩
  exact KA c (j+1) (h2 (jl e))
theorem ae3{t c:Nat}{n:Int}(h:adr ty te o=some (t,n,c)):te[t]? =some (.val (.int .i64 n)):=by
 unfold adr at h;split at h
 .split at h;.rename_i h1 h2;cases h;exact h2
  cases h
 .split at h;.rename_i h1 h2;cases h;exact h2
  cases h
 cases h
theorem ad0{Q:List TV->List TB->Prop}{md n0 k:Nat}{ny tR:List TB}{tX:List TV}(qu:md<=2)(ho:ops[k]? =some o)(hw:ez ops tX o=some true)(nO:MR ty md o tX tR te tS){K:KO}(hK:∀te tS fs,K te tS fs->xl P ty aK call yf B ops Q md ny (k+1) te tS fs)
  (hn:Ak tS (ot md n0 k tS)=true) {q:ads} (hq:Cn ty tt te tS o=some q) (h:YT md (ot md n0 k tS) o te tS fs K q):xl P ty aK call yf B ops Q md ny k tX tR fs:=by
 have quiet:∀{v v2:TV}{id:List Nat},bQ P ty tt te tS o=some (v,True)->((∃t x i,o.op=.indexAddr t x i)\/∃t a,o.op=.load t a)->lu te o=id->SS v2 v->xl P ty aK call yf B ops Q md ny (k+1) (j8 te o.dst v2) tS (fs++[⟨some id,false⟩])->xl P ty aK call yf B ops Q md ny k tX tR fs:=by
  intro v v2 id hp hi hr hv hb;rcases On qu with rfl|rfl|rfl
  .obtain⟨k1,k2⟩:=EC (nT:=tS.length) hp hi;refine lg ho hw nO (CZ (lM k1 trivial false) (Q':=λv bX bN ft=>v=v2/\bX=te/\bN=tS) ?_) ?_;.rintro _ _ _ _ ⟨rfl,rfl,rfl,rfl⟩;exact⟨v2,_,_,⟨none,true⟩,hv,Dc.refl _,Tx.refl _,λ_=>rfl,λ_ hl=>by(cases hl),rfl,rfl,rfl⟩
   rintro _ _ _ _ ⟨rfl,rfl,rfl⟩;exact hb
  .obtain⟨rfl,rfl⟩:=nO;exactλe=>Iz ho hw (e▸hp) trivial (afO (adP hv _ _) (hb e))
  obtain⟨rfl,rfl⟩:=nO;obtain⟨k1,k2⟩:=EC (nT:=n0+k) hp hi;refine tE ho hw hn (CZ (lM k1 trivial true) (Q':=λv bX bN ft=>v=v2/\bX=tX/\bN=tR/\ft=⟨some id,false⟩) ?_) ?_;.rintro _ _ _ _ ⟨rfl,rfl,rfl,rfl⟩;exact⟨v2,_,_,⟨some id,false⟩,hv,Dc.refl _,Tx.refl _,λe=>(by rw[k2]at e;exact e),λl hl=>⟨l,(by rw[hr];exact hl),λ_ h=>h⟩,rfl,rfl,rfl,rfl⟩
  rintro _ _ _ _ ⟨rfl,rfl,rfl,rfl⟩;exact hb
 have go:∀{v:TV}{bX:List TV}{bN:List TB}{ft:de},md≠1->(∀nT dr,nT=ot md n0 k tS->Does P ty aK call yf B o nT te tS dr λv' uk um ft'=>v'=v/\uk=bX/\um=bN/\ft'=ft)->xl P ty aK call yf B ops Q md ny (k+1) (j8 bX o.dst v) bN (fs++[ft])->xl P ty aK call yf B ops Q md ny k tX tR fs:=by
  intro v bX bN ft hm hd hb;rcases On qu with rfl|rfl|rfl;.refine lg ho hw nO (hd _ false rfl) ?_;rintro _ _ _ _ ⟨rfl,rfl,rfl,rfl⟩;exact hb
  .exact(hm rfl).elim
  obtain⟨rfl,rfl⟩:=nO;refine tE ho hw hn (hd _ true rfl) ?_;rintro _ _ _ _ ⟨rfl,rfl,rfl,rfl⟩;exact hb
 cases q with
 |ix v c=>
  obtain⟨hc,h⟩:=h;obtain⟨h1,h2⟩:=ad1 (P:=P) hq hc;have hr:lu te o=[]:=by obtain⟨t,x,i,e⟩:=h2;simp only[lu,e]
  exact quiet h1 (.inl h2) hr (SS.refl _) (hK _ _ _ (eP (K:=λte=>K te tS (fs++[gy])) h))
 |ld0 id off t x=>obtain⟨hc,h⟩:=gU h;obtain⟨⟨ap,h1⟩,h2,h3⟩:=ZP (P:=P) hq (by simpa using hc);refine quiet h1 (.inr h3) h2 (λι S d hd=>?_) (hK _ _ _ (eP (v:=.sl t x .no) (K:=λte=>K te tS (fs++[⟨some [id],false⟩])) h));cases d<;>simp only[RT]at hd⊢;exact⟨hd.1,trivial⟩
 |ld id off u c l b=>
  cases b with
  |true=>obtain⟨x,g,hx,h⟩:=h;obtain⟨h1,h2,h3⟩:=U3 (P:=P) hq hx;refine quiet h1 (.inr h3) h2 (λι S d hd=>?_) (hK _ _ _ (eP (v:=.sl u x (.Cf g)) (K:=λte=>K te tS (fs++[⟨some [id],false⟩])) h));cases d<;>simp only[RT,pL]at hd⊢;exact hd
  |false=>obtain⟨x,hx,h⟩:=h;obtain⟨h1,h2,h3⟩:=U3 (P:=P) hq hx;exact quiet h1 (.inr h3) h2 (SS.refl _) (hK _ _ _ (eP (v:=.sl u x .no) (K:=λte=>K te tS (fs++[⟨some [id],false⟩])) h))
 |st id off c l u y g=>
  simp only[YT]at h;split at h;.exact h.elim
  rename_i hm;obtain⟨j,hj,hl,h⟩:=h;exact go (by simpa using hm) (λnT dr _=>aaY hq hj hl dr) (hK _ _ _ (cI _ (K:=λtS=>K _ tS (fs++[⟨some [id],true⟩])) (eP (K:=λte=>bW (tS.set id (.cells (c::l.set j (.sl u y (.je g))))) λtS=>K te tS (fs++[⟨some [id],true⟩])) h)))
 |ap e s g k' l c=>
  simp only[YT]at h;split at h
  .rename_i lo n hm he;obtain⟨⟨h1,h2⟩,hc,h⟩:=h;have e1:(pP e s 0 tS).1=lo:=by rw[he]
   have e2:(pP e s 0 tS).2=n:=by rw[he]
   have hd:=λdr=>aaZ (P:=P) (aK:=aK) (call:=call) (yf:=yf) (B:=B) (nT:=ot md n0 k tS) hq hc (by rw[e1];exact h1) (by rw[e1,e2];exact h2) dr;rw[e1,e2]at hd;exact go (by simpa using hm) (λnT dr hnT=>by subst hnT;exact hd dr) (hK _ _ _ (cI _ (K:=λbN=>K _ bN (fs++[⟨some (ot md n0 k tS::List.range' lo n),true⟩])) (eP (v:=.sl k' l (.Cf g)) (K:=λte=>bW (HY tS g tS) λbN=>K te bN (fs++[⟨some (ot md n0 k tS::List.range' lo n),true⟩])) (cg _ (K:=λte=>gq te o.dst (.sl k' l (.Cf g)) λte=>bW (HY tS g tS) λbN=>K te bN (fs++[⟨some (ot md n0 k tS::List.range' lo n),true⟩])) h))))
  exact h.elim
theorem Vd(hT:qy T aK call)(hI:wS P ty call yf T inl){Q:List TV->List TB->Prop}{md n0 k:Nat}{ny tR:List TB}{tX:List TV}(qu:md<=2)(ho:ops[k]? =some o)(hw:ez ops tX o=some true)(nO:MR ty md o tX tR te tS){K:KO}(hK:∀te tS fs,K te tS fs->xl P ty aK call yf B ops Q md ny (k+1) te tS fs)
  (h:QN P ty tt T inl md n0 k o te tS fs K):xl P ty aK call yf B ops Q md ny k tX tR fs:=by
 unfold QN at h;split at h
 .split at h;.rename_i hq _ hn;exact ad0 qu ho hw nO hK hn hq h
  exact h.elim
 split at h;.rename_i t n c ha;obtain⟨i,rfl,hi⟩:=KA _ _ h;have:=qB te t _ hi;rw[pZ (ae3 ha)]at this;exact Ve hT hI qu ho hw nO hK this
 exact Ve hT hI qu ho hw nO hK h
theorem Uo(hT:qy T aK call)(hI:wS P ty call yf T inl){Q:List TV->List TB->Prop}{md n0 k:Nat}{ny:List TB}(qu:md<=2)(ho:ops[k]? =some o)(hw:ez ops te o=some true){K:KO}(hK:∀te tS fs,K te tS fs->xl P ty aK call yf B ops Q md ny (k+1) te tS fs)
  (h:opK P ty tt T inl md n0 k o te tS fs K):xl P ty aK call yf B ops Q md ny k te tS fs:=by
 unfold opK at h;split at h
 .split at h;.rename_i mI iM hp;exact Vd hT hI qu ho hw hp hK (cI iM (K:=λtS=>QN P ty tt T inl 0 n0 k o mI tS fs K) (cg mI (K:=λte=>bW iM λtS=>QN P ty tt T inl 0 n0 k o te tS fs K) h))
  exact h.elim
 rename_i hno;refine Vd hT hI qu ho hw ?_ hK h;rcases On qu with rfl|rfl|rfl
 .show MC ty te tS o=some (te,tS);unfold MC;split;.rename_i h2;exact(hno rfl h2).elim
  rfl
 .exact⟨rfl,rfl⟩
 exact⟨rfl,rfl⟩
theorem ab6{b:Bool}(h:gdT ops te o=.no b):ez ops te o=some b:=by
 unfold gdT at h;unfold ez;split at h;.cases h;rename_i e;rw[e]
 rename_i e;rw[e];dsimp only;split at h
 .rename_i e1;rw[e1];dsimp only;split at h;.cases h
  .cases h
  .cases h;rename_i v hv e2;rw[e2];split<;>simp_all
  cases h
 cases h;rename_i e1;rw[e1]
theorem aeL{d:Tmp}{b want:Bool}(h:gdT ops te o=.ask d b want):te[d]? =some (.val (.bool b))/\ez ops te o=some (match want with|true=>b|false=>!b):=by
 unfold gdT at h;unfold ez;split at h;.cases h
 rename_i e;rw[e];dsimp only;split at h
 .rename_i e1;rw[e1];dsimp only;split at h;.cases h;rename_i e2;rw[e2];cases want<;>exact⟨rfl,rfl⟩
  .cases h
  .cases h
  cases h
 cases h
theorem Dx(hT:qy T aK call)(hI:wS P ty call yf T inl){Q:List TV->List TB->Prop}{md n0:Nat}{ny:List TB}(qu:md<=2){K:KO}(hK:∀te tS fs,K te tS fs->xl P ty aK call yf B ops Q md ny ops.size te tS fs):
  ∀(r:List Oper)(k:Nat)(te:List TV)(tS:List TB)(fs:List de),ops.toList.drop k=r->qw P ty tt T inl md n0 ops r k te tS fs K->xl P ty aK call yf B ops Q md ny k te tS fs
 |[],k,te,tS,fs,hr,h=>by
  have hk:ops.size<=k:=by have:=List.drop_eq_nil_iff.1 hr;simpa using this
  have h1:=hK te tS fs h;rcases On qu with rfl|rfl|rfl;.intro ι env S hR hB;have:=h1 ι env S hR hB;rw[j3 (by simp)]at this;rw[j3 (by simpa using hk)];exact this
  .intro e ι env S hR;have:=h1 e ι env S hR;rw[j3 (by simp)]at this;rw[j3 (by simpa using hk)];exact this
  skip
  intro ι w env S n0 hR hB hw hn;have:=h1 ι w env S n0 hR hB hw (λj hj wv=>by omega);rw[j3 (by simp)]at this;rw[j3 (by simpa using hk)];obtain⟨aL,S',xh,ι',w',bX,bN,ft,e1,e2,e3,e4,e5,e6,e7,e8,e9⟩:=this;exact⟨aL,S',xh,ι',w',bX,bN,ft,e1,e2,λj _=>e3 j λi hi Fg=>by omega,e4,e5,e6,e7,⟨e8.1,λj _ hn=>e8.2 j (λi hi Fg=>by omega) hn⟩,e9⟩
 |o::r,k,te,tS,fs,hr,h=>by
  obtain⟨ho,Bm⟩:=LY hr;have ih:∀te tS fs,qw P ty tt T inl md n0 ops r (k+1) te tS fs K->xl P ty aK call yf B ops Q md ny (k+1) te tS fs:=λte tS fs=>Dx hT hI qu hK r (k+1) te tS fs Bm.symm;simp only[qw]at h;split at h;.rename_i hg;exact Uo hT hI qu ho (ab6 hg) ih h
  .rename_i hg;exact IG qu ho (ab6 hg) ih h
  .rename_i d b want hg;obtain⟨h1,h2⟩:=aeL hg;split at h
   .obtain⟨k1,k2⟩:=vU h;cases b with
    |true=>have:=qB te d _ (k1 rfl);rw[pZ h1]at this;exact Uo hT hI qu ho h2 ih this
    |false=>have:=qB te d _ (k2 rfl);rw[pZ h1]at this;exact IG qu ho h2 ih this
   obtain⟨k1,k2⟩:=vU h;cases b with
   |true=>have:=qB te d _ (k1 rfl);rw[pZ h1]at this;exact IG qu ho h2 ih this
   |false=>have:=qB te d _ (k2 rfl);rw[pZ h1]at this;exact Uo hT hI qu ho h2 ih this
  exact h.elim
end Go.Tv
