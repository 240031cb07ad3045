import Derived.Test.YtedcgbkilmlbhaaPk09
namespace Go.Tv
open Go Go.Di Go.Proofs
theorem wu{b:Bool}{A B:Prop}(h:aO b A B):(b=true->A)/\(b=false->B):=by cases b<;>exact⟨λe=>by cases e<;>exact h,λe=>by cases e<;>exact h⟩
theorem iM{b:Bool}{A:Prop}(h:aO b A False):b=true/\A:=by
 cases b;.exact h.elim
 exact⟨rfl,h⟩
theorem lR:∀{l:List Prop},dB l↔∀p∈l,p
 |[]=>by simp[dB]
 |p::l=>by have:=lR (l:=l);simp only[dB,this,bz,forall_eq_or_imp]
theorem jf:∀{l:List Prop}{R:Prop},AG l R->dB l/\R
 |[],_,h=>⟨trivial,h⟩
 |p::l,R,h=>by obtain⟨h1,h2⟩:=jf h.2;exact⟨lR.2 (by rintro q hq;rcases bz.1 hq with rfl|hq;exact h.1;exact lR.1 h1 q hq),h2⟩
theorem j7{l m:List Prop}(h:dB (l++m)):dB l/\dB m:=by rw[lR]at h;exact⟨lR.2 λp hp=>h p (qU _ hp),lR.2 λp hp=>h p (List.mem_append_right _ hp)⟩
theorem nv:∀{l:List Prop}{R:Prop},impl l R->dB l->R
 |[],_,h,_=>h
 |p::l,R,h,k=>by rw[lR]at k;exact nv (h (k p (gv ..))) (lR.2 λq hq=>k q (nO _ hq))
theorem jN{o:Option (List Prop)}{K:Prop}(h:ask o K):∃l,o=some l/\dB l/\K:=by
 cases o with
 |none=>exact h.elim
 |some l=>exact⟨l,rfl,jf h⟩
theorem Ik{R K:TV->List TV->List Prop->Prop}:∀{s:sM},s.all R->s.some K->∃v cs fs,R v cs fs/\K v cs fs
 |.ex _ _,h,⟨x,k⟩=>Ik (h x) k
 |.res v cs fs,h,k=>⟨v,cs,fs,h,k⟩
theorem HM{R:TV->List TV->Prop}{v:TV}{cs:List TV}{s:sM}(h:s.all λv cs fs=>impl fs (R v cs))(k:s.holds v cs):R v cs:=by obtain⟨v',lG,fs,h,rfl,rfl,hf⟩:=Ik h k;exact nv h hf
theorem Fh{R:TV->Prop}{v:TV}{s:sM}(h:s.all λv _ fs=>impl fs (R v))(k:s.uT v):R v:=by obtain⟨v',lG,fs,h,rfl,hf⟩:=Ik h k;exact nv h hf
theorem Oz{R:List TV->Prop}{cs:List TV}{s:sM}(h:s.all λ_ cs fs=>impl fs (R cs))(k:s.AR cs):R cs:=by obtain⟨v',lG,fs,h,rfl,hf⟩:=Ik h k;exact nv h hf
mutual
theorem gK:∀(v:TV){K:TV->Prop},gH v K->K v
 |.unk,_,h=>h
 |.val v,_,h=>by cases v<;>exact h
 |.au,_,h=>h
 |.agg l,K,h=>by simp only[gH]at h;exact cz l (K:=λl=>K (.agg l)) h
 |.tup l,K,h=>by simp only[gH]at h;exact cz l (K:=λl=>K (.tup l)) h
 |.sl _ _ _,_,h=>h
 |.ptr _ _,_,h=>h
 |.fF _ _ _ _,_,h=>h
 |.mp _,_,h=>h
 |.so _ _,_,h=>h
 |.sp _ _ _ _,_,h=>h
 |.oq k fn te,K,h=>by simp only[gH]at h;exact cz te (K:=λte=>K (.oq k fn te)) h
 |.fn f a b,K,h=>by simp only[gH]at h;exact cz b (K:=λb=>K (.fn f a b)) (cz a (K:=λa=>cZ b λb=>K (.fn f a b)) h)
theorem cz:∀(l:List TV){K:List TV->Prop},cZ l K->K l
 |[],_,h=>h
 |a::l,K,h=>by
  have h1:=gK a (K:=λa=>match rE a with|true=>K (a::l)|false=>cZ l λl=>K (a::l)) (by simp only[cZ]at h;exact h);split at h1;.exact h1
  exact cz l (K:=λl=>K (a::l)) h1
end
theorem cO:∀(l:List TB){K:List TB->Prop},bW l K->K l
 |[],_,h=>h
 |.cells c::l,K,h=>cO l (K:=λl=>K (.cells c::l)) (cz c (K:=λc=>bW l λl=>K (.cells c::l)) h)
 |.none::l,K,h=>cO l (K:=λl=>K (.none::l)) h
 |.loop::l,K,h=>cO l (K:=λl=>K (.loop::l)) h
 |.own e s::l,K,h=>cO l (K:=λl=>K (.own e s::l)) h
 |.map kt c::l,K,h=>cO l (K:=λl=>K (.map kt c::l)) h
 |.rows t e c z::l,K,h=>cO l (K:=λl=>K (.rows t e c z::l)) h
theorem qI:∀(l:List TV)(n:Nat)(v:TV){K:List TV->Prop},FK l n v K->K (l.set n v)
 |[],_,_,_,h=>h
 |_::_,0,_,_,h=>h
 |a::l,n+1,v,K,h=>qI l n v (K:=λl=>K (a::l)) h
theorem eT{te:List TV}{dst:Option Tmp}{v:TV}{K:List TV->Prop}(h:gy te dst v K):K (ki te dst v):=by
 cases dst with
 |none=>exact h
 |some d=>exact qI te d v h
theorem qf:∀{l:List TV}{n:Nat}{v:TV},l[n]? =some v->l.set n v=l
 |[],_,_,h=>by simp at h
 |_::_,0,_,h=>by simp only[cg,aB]at h;rw[h];rfl
 |a::l,n+1,v,h=>by rw[List.set_cons_succ,qf (l:=l) (by simpa using h)]
mutual
theorem AX:∀{a b:TV}{l:List Prop},Ys a b=some l->dB l->a=b
 |a,b,l,h,k=>by
  unfold Ys at h;split at h;.rfl
  .split at h;.rename_i hk;subst hk;cases h;rw[show _=_ from k.1]
   cases h
  .cases h;rw[show _=_ from k.1]
  .cases h;rw[show _=_ from k.1]
  .rfl
  .rw[sY h k]
  .rw[sY h k]
  .split at h;.rename_i ht;subst ht;cases h;cases(show _=_ from k.1);rfl
   cases h
  .split at h;.rename_i ht;subst ht;cases h;cases(show _=_ from k.1);rfl
   cases h
  .split at h
   .rename_i ht;subst ht;split at h;.rename_i hg;subst hg;cases h;cases(show _=_ from k.1);rfl
    cases h
   cases h
  .split at h
   .rename_i ht;subst ht;split at h;.rename_i hb;subst hb;cases h;cases(show _=_ from k.1);rfl
    cases h
   cases h
  .split at h;.rename_i ht;obtain⟨rfl,rfl⟩:=ht;rfl
   cases h
  .split at h;.rename_i ht;subst ht;rfl
   cases h
  .split at h;.rename_i ht;obtain⟨rfl,rfl⟩:=ht;rw[sY h k]
   cases h
  .split at h;.rename_i ht;obtain⟨rfl,rfl⟩:=ht;rfl
   cases h
  .split at h;.rename_i ht;subst ht;cases h;obtain⟨k1,k2,k3⟩:=k;cases(show _=_ from k1);cases(show _=_ from k2);cases(show _=_ from k3.1);rfl
   cases h
  .split at h
   .rename_i hf;subst hf;split at h;.rename_i x y h1 h2;cases h;obtain⟨k1,k2⟩:=j7 k;rw[sY h1 k1,sY h2 k2]
    cases h
   cases h
  cases h
theorem sY:∀{a b:List TV}{l:List Prop},QY a b=some l->dB l->a=b
 |[],[],_,_,_=>rfl
 |a::l,b::m,_,h,k=>by
  simp only[QY]at h;split at h;.simp only[af]at h;obtain⟨x,h1,rfl⟩:=h;obtain⟨k1,k2⟩:=j7 k;rw[AX h1 k1,(show l=m from k2.1)]
  split at h;.rename_i x y h1 h2;cases h;obtain⟨k1,k2⟩:=j7 k;rw[AX h1 k1,sY h2 k2]
  cases h
 |[],_::_,_,h,_=>by simp[QY]at h
 |_::_,[],_,h,_=>by simp[QY]at h
end
def LeV(u v:TV):Prop:=∀l m,jW l m->jW (u::l) (v::m)
mutual
theorem Iu:∀{v u:TV}{l:List Prop},leT v u=some l->dB l->LeV u v
 |v,u,l,h,k=>by
  unfold leT at h;split at h;.exactλ_ _=>.unk
  .split at h;.rename_i ht;subst ht;cases h;cases(show _=_ from k.1);exactλ_ _=>.no
   cases h
  .split at h;.rename_i ht;subst ht;cases h;cases(show _=_ from k.1);exactλ_ _=>.stop
   cases h
  .split at h
   .split at h;.rename_i ht;subst ht;cases h;cases(show _=_ from k.1);exactλ_ _=>.kA
    cases h
   cases h
  .cases h;cases(show _=_ from k.1);exactλ_ _=>.au
  .rename_i a b;have:=y7 h k;exactλ_ _=>.agg this
  rw[AX h k];exactλ_ _=>.same
theorem y7:∀{v u:List TV}{l:List Prop},H6 v u=some l->dB l->jW u v
 |[],[],_,_,_=>.nil
 |a::l,b::m,_,h,k=>by
  simp only[H6]at h;split at h;.simp only[af]at h;obtain⟨x,h1,rfl⟩:=h;obtain⟨k1,k2⟩:=j7 k;exact Iu h1 k1 _ _ k2.1
  split at h;.rename_i x y h1 h2;cases h;obtain⟨k1,k2⟩:=j7 k;exact Iu h1 k1 _ _ (y7 h2 k2)
  cases h
 |[],_::_,_,h,_=>by simp[H6]at h
 |_::_,[],_,h,_=>by simp[H6]at h
end
theorem aaH:∀{v u:List TB}{l:List Prop},rz v u=some l->dB l->CC u v
 |v,u,l,h,k=>by
  induction u generalizing v l with
  |nil=>exact .nil
  |cons b m ih=>
   cases v with
   |nil=>
    cases b with
    |own e s=>exact .new (ih _ _ h k)
    |_=>simp[rz]at h
   |cons a v=>
    cases b with
    |none=>exact .none (ih _ _ (by simpa [rz]using h) k)
    |loop=>
     cases a with
     |loop=>exact .loop (ih _ _ (by simpa [rz]using h) k)
     |_=>simp[rz]at h
    |cells c=>
     cases a with
     |cells d=>
      simp only[rz]at h;split at h;.rename_i x y h1 h2;cases h;obtain⟨k1,k2⟩:=j7 k;exact .cells (y7 h1 k1) (ih _ _ h2 k2)
      cases h
     |_=>simp[rz]at h
    |own e s=>
     cases a with
     |own e' s'=>
      simp only[rz]at h;split at h;.rename_i he;obtain⟨rfl,rfl⟩:=he;exact .own (ih _ _ h k)
      cases h
     |_=>simp[rz]at h
    |map kt c=>
     cases a with
     |map kt' c'=>
      simp only[rz]at h;split at h
      .rename_i he;subst he;split at h;.rename_i y h2;cases h;obtain⟨k1,k2⟩:=k;cases(show _=_ from k1);exact .map (ih _ _ h2 k2)
       cases h
      cases h
     |_=>simp[rz]at h
    |rows t e c z=>
     cases a with
     |rows t' e' c' z'=>
      simp only[rz]at h;split at h
      .rename_i he;subst he;split at h
       .rename_i hez;obtain⟨rfl,rfl⟩:=hez;split at h;.rename_i y h2;cases h;obtain⟨k1,k2⟩:=k;cases(show _=_ from k1);exact .rows (ih _ _ h2 k2)
        cases h
       cases h
      cases h
     |_=>simp[rz]at h
theorem zP{sl:List (Nat×TV)}{keep:Nat}:∀{i:Nat}{te:List TV}{l:List Prop},xe sl i te=some l->dB l->jW (oI sl keep i te) te
 |_,[],_,_,_=>.nil
 |i,v::te,l,h,k=>by
  simp only[xe]at h;simp only[oI];split at h
  .rename_i p hp;split at h;.rename_i x y h1 h2;cases h;obtain⟨k1,k2⟩:=j7 k;exact Iu h1 k1 _ _ (zP h2 k2)
   cases h
  rename_i hp;split;.exact .same (zP h k)
  exact .unk (zP h k)
theorem je{pl:List (Nat×List TV)}{mp:MpL}{own:List (Nat×Nat)}:∀{i:Nat}{tS:List TB}{l:List Prop},jI pl mp i tS=some l->dB l->CC (uC pl mp i tS++own.map λp=>TB.own p.1 p.2) tS
 |_,[],_,_,_=>LC own
 |i,.none::tS,l,h,k=>by simp only[jI]at h;exact .none (je h k)
 |i,.loop::tS,l,h,k=>by simp only[jI]at h;exact .loop (je h k)
 |i,.own _ _::tS,l,h,k=>by simp only[jI]at h;exact .own (je h k)
 |i,.cells c::tS,l,h,k=>by
  simp only[jI]at h;simp only[uC,nM];split at h
  .rename_i p hp;split at h;.rename_i x y h1 h2;cases h;obtain⟨k1,k2⟩:=j7 k;exact .cells (y7 h1 k1) (je h2 k2)
   cases h
  exact .cells (jW.refl c) (je h k)
 |i,.map kt c::tS,l,h,k=>by
  simp only[jI]at h;simp only[uC,nM];split at h
  .rename_i a kt' c' hp;split at h
   .rename_i he;subst he;split at h;.rename_i y h2;cases h;obtain⟨k1,k2⟩:=k;cases(show c=c' from k1);exact .map (je h2 k2)
    cases h
   cases h
  exact .map (je h k)
 |i,.rows kt e c z::tS,l,h,k=>by
  simp only[jI]at h;simp only[uC,nM];split at h
  .rename_i a kt' c' hp;split at h
   .rename_i he;subst he;split at h;.rename_i y h2;cases h;obtain⟨k1,k2⟩:=k;cases(show c=c' from k1);exact .rows (je h2 k2)
    cases h
   cases h
  exact .rows (je h k)
variable {P:Program} {ty:fP} {tt:TypeId->Option TT} {T:fQ} {ι ι' w:lq} {S S':ai} {te mM:List TV} {env:List DV} {tS iT:List TB} {aI:bS} {call:bt} {yf:ew} {o:Oper} {aD nT:Nat} {B:List Nat} {r:TR} {ops:Array Oper} {L:Nat} {fn:FuncId} {jj:Bool}
theorem Oy{v:TV}{c:Prop}(h:D6 te o=some (v,c))(hc:c):bP P ty tt te tS o=some (v,True):=by
 unfold D6 at h;split at h
 .rename_i t x y _ ho;split at h;.rename_i a b h1 h2;cases h;have:jC P (do eqGuard .add t x y (.int .i64 a) (.int .i64 b);binOp .add t (.int .i64 a) (.int .i64 b))=some (.val (.int .i64 (IntKind.i64.wrap (a+b)))):=rfl;simp only[bP,ho,h1,h2,cq,iL,this,xH,av,DN hc.1 hc.2]
  cases h
 .rename_i t x y _ ho;split at h;.rename_i a b h1 h2;cases h;have:jC P (do eqGuard .sub t x y (.int .i64 a) (.int .i64 b);binOp .sub t (.int .i64 a) (.int .i64 b))=some (.val (.int .i64 (IntKind.i64.wrap (a-b)))):=rfl;simp only[bP,ho,h1,h2,cq,iL,this,xH,av,DN hc.1 hc.2]
  cases h
 .rename_i t x y _ ho;split at h;.rename_i a b h1 h2;cases h;have:jC P (do eqGuard .mul t x y (.int .i64 a) (.int .i64 b);binOp .mul t (.int .i64 a) (.int .i64 b))=some (.val (.int .i64 (IntKind.i64.wrap (a*b)))):=rfl;simp only[bP,ho,h1,h2,cq,iL,this,xH,av,DN hc.1 hc.2]
  cases h
 .rename_i t x ho;split at h
  .rename_i a h1;cases h;have:jC P (Op.unary .neg (.int .i64 a))=some (.val (.int .i64 (IntKind.i64.wrap (-a)))):=by rw[<-Int.zero_sub];rfl
   simp only[bP,ho,h1,cq,iL,this,xH,av,DN hc.1 hc.2]
  cases h
 .rename_i t x y _ ho;split at h
  .rename_i a b h1 h2;cases h;have:jC P (do eqGuard .and t x y (.int .i64 a) (.int .i64 b);binOp .and t (.int .i64 a) (.int .i64 b))=some (.val (.int .i64 (afN a b))):=by cases a<;>rfl
   simp only[bP,ho,h1,h2,cq,iL,this,xH,av]
  cases h
 cases h
theorem abb{t:TypeId}{xs ys:Array Value}{b:Bool}(ht:P.underlying t=some (.struct (P.fieldsOf t)))(hp:P.stoodInHeld t=false)(hm:P.eqGuardType P.depth t=false)(hf:cu P (Op.eqFields 9999 xs ys (P.fieldsOf t).toList)=some b)(x y:Operand):
  jC P (do eqGuard .eql t x y (.agg xs) (.agg ys);binOp .eql t (.agg xs) (.agg ys))=some (.val (.bool b)):=by
 have h1:cu P (eqGuard .eql t x y (.agg xs) (.agg ys))=some ():=by simp only[eqGuard];simp only[gr,aG,if_false,cU,nQ,cq,hm,vT,if_true];rfl
 have h2:cu P (binOp .eql t (.agg xs) (.agg ys))=some (.bool b):=by simp only[binOp,cU,Op.equal,Op.maxDepth,tD 9999 t xs ys ht hp,hf,cq];rfl
 rw[jC,cU,h1,cq,h2];rfl
theorem Qy{xs ys:Array Value}{fs:List Field}{b:Bool}(h:adm P xs ys fs=some b):cu P (Op.eqFields 9999 xs ys fs)=some b:=ED (λ_ _ _ _ h=>NG (by omega) h) h
theorem X4{b:Bool}(h:Ui P te o=some b):bP P ty tt te tS o=some (.val (.bool b),True):=by
 unfold Ui at h;split at h
 .rename_i t x y _ ho;split at h
  .rename_i xs ys h1 h2;split at h;.rename_i fs h3 h4 h5;simp only[af]at h;obtain⟨r,h6,rfl⟩:=h;have e:=aba (P:=P) (tC h3) h4 h5 (b:=r) (by simp only[Program.fieldsOf,h3];exact Qy h6) x y;simp only[bP,ho,h1,h2,e,xH,av]
   cases h
  cases h
 .rename_i t x y _ ho;split at h
  .rename_i xs ys h1 h2;split at h;.rename_i fs h3 h4 h5;have e:=abb (P:=P) (tC h3) h4 h5 (b:=b) (by simp only[Program.fieldsOf,h3];exact Qy h) x y;simp only[bP,ho,h1,h2,e,xH,av]
   cases h
  cases h
 cases h
end Go.Tv
namespace Go.Tv
open Go Go.Di Go.Proofs
variable {P:Program} {ty:fP} {tt:TypeId->Option TT} {T:fQ} {ι ι' w:lq} {S S':ai} {te mM:List TV} {env:List DV} {tS iT:List TB} {aI:bS} {call:bt} {yf:ew} {o:Oper} {aD nT:Nat} {B:List Nat} {r:TR} {ops:Array Oper} {L:Nat} {fn:FuncId} {jj:Bool} {fs:List dm}
theorem OE{md:Nat}(h:md<=2):md=0\/md=1\/md=2:=by omega
theorem XA{α β:Type}{x:Option α}{f:α->β}{q:β×Prop}(h:x.map (λa=>(f a,True))=some q):q.2:=by simp only[af]at h;obtain⟨_,_,rfl⟩:=h;trivial
theorem Lm{q:TV×Prop}(hc:AY o=false)(h:bP P ty tt te tS o=some q):q.2:=by
 unfold AY at hc;unfold bP at h;cases ho:o.op;all_goals simp only[ho]at hc h
 all_goals try(cases hc;done)
 all_goals repeat' (split at h)
 all_goals first
  |(cases h;done)
  |(cases h;trivial)
  |exact XA h
  |(simp only[af]at h;obtain⟨_,_,rfl⟩:=h;trivial)
theorem Xu{q:TR}(hc:AY o=false)(h:stepT P ty tt te tS o nT=some q):q.c:=by
 have hp:∀{q:TR},((bP P ty tt te tS o).map λr=>(⟨r.1,te,tS,lD te o,r.2⟩:TR))=some q->q.c:=by intro q h;simp only[af]at h;obtain⟨a,h1,rfl⟩:=h;exact Lm hc h1
 unfold stepT at h;split at h
 .split at h;.cases h;trivial
  cases h
 .split at h
  .split at h;.cases h;trivial
   cases h
  cases h
 .split at h
  .split at h
   .split at h;.simp only[af]at h;obtain⟨_,_,rfl⟩:=h;trivial
    cases h
   cases h
  cases h
 .rename_i ho;simp only[AY,ho]at hc;cases hc
 exact hp h
def Nb(o:Oper):Prop:=(∃op t x y u,o.op=.binOp op t x y u)\/∃op t x,o.op=.unOp op t x
theorem Aa{v:TV}(hb:Nb o)(h:bP P ty tt te tS o=some (v,True)):stepT P ty tt te tS o nT=some ⟨v,te,tS,[],True⟩:=by rcases hb with ⟨op,t,x,y,u,ho⟩|⟨op,t,x,ho⟩<;>simp only[stepT,ho,h,av,lD]
theorem SM{v:TV}{c:Prop}(h:D6 te o=some (v,c)):Nb o:=by
 unfold D6 at h;split at h;.rename_i ho;exact .inl ⟨_,_,_,_,_,ho⟩
 .rename_i ho;exact .inl ⟨_,_,_,_,_,ho⟩
 .rename_i ho;exact .inl ⟨_,_,_,_,_,ho⟩
 .rename_i ho;exact .inr ⟨_,_,_,ho⟩
 .rename_i ho;exact .inl ⟨_,_,_,_,_,ho⟩
 cases h
theorem abc{b:Bool}(h:Ui P te o=some b):Nb o:=by
 unfold Ui at h;split at h;.rename_i ho;exact .inl ⟨_,_,_,_,_,ho⟩
 .rename_i ho;exact .inl ⟨_,_,_,_,_,ho⟩
 cases h
theorem ae3(hb:Nb o):nU o=false:=by rcases hb with ⟨op,t,x,y,u,ho⟩|⟨op,t,x,ho⟩<;>simp only[nU,ho]
theorem LS{g:FuncId}{targs:List TV}(h:O9 tt te o=some (g,targs)):∃f args argTypes fs cs xs,o.op=.call {callee:=.value f,args,argTypes}/\fM te f=some (.fn g fs cs)/\lV te args.toList=some xs/\(fs++xs++cs).all eG=true/\bG (gm tt fs argTypes) (fs++xs++cs)=targs:=by
 unfold O9 at h;split at h
 .rename_i f args argTypes ho;split at h
  .rename_i g' fs cs xs h1 h2;split at h;.rename_i h3;cases h;exact⟨f,args,argTypes,fs,cs,xs,ho,h1,h2,h3,rfl⟩
   cases h
  cases h
 cases h
theorem R4{g:FuncId}{kp:Nat}{targs ts:List TV}(h:Nq tt te tS o=some (g,kp,targs,ts)):∃f args argTypes fs cs xs,o.op=.call {callee:=.value f,args,argTypes}/\fM te f=some (.fn g fs cs)/\lV te args.toList=some xs/\yS kp (gm tt fs argTypes) (fs++xs++cs)=some targs/\(fs++xs++cs).any isRef=true/\tS[kp]? =some (.cells ts)/\eH ts=[]:=by
 unfold Nq at h;split at h
 .rename_i f args argTypes ho;split at h
  .rename_i g' fs cs xs h1 h2;split at h
   .split at h
    .rename_i h4 h5;split at h;.rename_i h6;simp only[aA,zi]at h6;cases h;exact⟨f,args,argTypes,fs,cs,xs,ho,h1,h2,h4,h6.1,h5,h6.2⟩
     cases h
    cases h
   cases h
  cases h
 cases h
theorem R5{g:FuncId}{kp:Nat}{targs ts:List TV}(h:Nr tt te tS o=some (g,kp,targs,ts)):∃f args argTypes fs cs xs off rest,o.op=.call {callee:=.value f,args,argTypes}/\fM te f=some (.fn g fs cs)/\lV te args.toList=some xs/\fs++xs++cs=.ptr kp off::rest/\rest.all eG=true/\tS[kp]? =some (.cells ts)/\ts.all kQ=true/\targs=.ptr 0 off::bG (gm tt fs argTypes).tail rest:=by
 unfold Nr at h;split at h
 .rename_i f args argTypes ho;split at h
  .rename_i g' fs cs xs h1 h2;split at h
   .rename_i kp' off rest hl;split at h
    .rename_i Am h5;split at h;.rename_i h6;simp only[aA]at h6;cases h;exact⟨f,args,argTypes,fs,cs,xs,off,rest,ho,h1,h2,hl,h6.1,h5,h6.2,rfl⟩
     cases h
    cases h
   cases h
  cases h
 cases h
theorem LK{md:Nat}{v:TV}{cs:List TV}{K:Prop}(h:Kt md v cs K):(md=2->BW v=true/\cs.all kQ=true)/\K:=by
 unfold Kt at h;split at h
 .split at h;.rename_i h1;simp only[aA]at h1;exact⟨λ_=>h1,h⟩
  exact h.elim
 rename_i hn;exact⟨λe=>(hn e).elim,h⟩
def wq(call:bt)(g:FuncId)(A:List TV)(tS:List TB)(K:TV->List TB->Prop):Prop:=
 ∀ι bR S,bT ι A tS bR S->∃d S' ι' v bN,call g bR S=some (d,S')/\bT ι' [v] bN [d] S'/\oK (dI 0 tS) bN/\Fr (dI 0 tS) ι S ι' S'/\Nn S.length S S'/\K v bN
theorem X0{f:Operand}{args:Array Operand}{argTypes:Array TypeId}{g:FuncId}{fs cs xs:List TV}{K:TV->List TB->Prop}(hop:o.op=.call {callee:=.value f,args,argTypes})(hf:fM te f=some (.fn g fs cs))(ha:lV te args.toList=some xs)(hr:(fs++xs++cs).any isRef=true\/ty.h o=1)
  (hc:wq call g (fs++xs++cs) tS K):Does P ty aI call yf B o nT te tS false λv bZ bN _=>bZ=gf tS te/\K v bN:=by
 intro ι w env S aD hR hB hw hT Fu hS;obtain⟨xD,lG,FA,k1,k2,k3⟩:=iS hR.env hf ha;obtain⟨d,S',ι',v,bN,m1,m2,m3,m4,m5,m6⟩:=hc ι _ S ⟨k3,hR.cells,hR.own,hR.qv,hR.inj,hR.mp⟩;obtain⟨w',hw'⟩:=M7 m2;obtain⟨_,_,e,m7,-⟩:=ak m2.env;cases e;have Dv:∀k,k∈B->k∈dI 0 tS:=λk hk=>by obtain⟨l,h1⟩:=hB k hk;exact sr h1
 refine⟨d,S',ι',w',v,gf tS te,bN,⟨none,true⟩,⟨none,true⟩,λ_=>?_,λe=>(by cases e),⟨λe=>e,λl hl=>(by cases hl)⟩,λl m hl=>(by cases hl),⟨j6 (λk hk=>?_) _ _ hR.env,m2.cells,m2.own,m2.qv,m2.inj,m2.mp⟩,m7,hw',λe=>(by cases e),⟨m4.rest,m4.ours,λk hk=>m4.base k (Dv k hk)⟩,λk hk=>m3 k (Dv k hk),⟨m5.1,λj hj dA=>m5.2 j (by have:=(az.1 dA).1;omega) dA⟩,rfl,m6⟩
 .rcases hr with hr|hr;.have:=nA hr k3;simp only[ah,hop,k1,k2,xh,this,aG,if_false,m1];split<;>rfl
  simp only[ah,hop,k1,k2,hr,m1]
 unfold jY at hk;split at hk;.rename_i c hc;exact m4.base k (LF hc)
 cases hk
theorem aaQ{md:Nat}{A:List TV}{fn:Func}{j:List (Nat×LA)}(h:acT ty T md te o=some (A,fn,j)):md=0/\∃f args argTypes g fs cs xs,o.op=.call {callee:=.value f,args,argTypes}/\fM te f=some (.fn g fs cs)/\lV te args.toList=some xs/\((fs++xs++cs).any isRef=true\/ty.h o=1)/\A=fs++xs++cs/\T.X g=some (fn,j):=by
 unfold acT at h;split at h
 .split at h
  .rename_i g A' h1;split at h
   .rename_i vB j' h2;cases h;unfold afj at h1;split at h1
    .rename_i f args argTypes ho;split at h1
     .rename_i g' fs cs xs e1 e2;split at h1;.rename_i hr;cases h1;exact⟨rfl,f,args,argTypes,g,fs,cs,xs,ho,e1,e2,by simpa using hr,rfl,h2⟩
      cases h1
     cases h1
    cases h1
   cases h
  cases h
 cases h
theorem sk{b:Bool}{c:Prop}(h:acP ty te o=some (b,c))(hc:c):(∃op t x y u,o.op=.binOp op t x y u)/\∀{env:List DV},cQ ι S te env->∀aD,ah P ty aI call yf (jy env) o S aD=some (.val (.bool b),S):=by
 unfold acP at h;split at h
 .rename_i t x y _ ho;refine⟨⟨_,_,_,_,_,ho⟩,λ{env} hE aD=>?_⟩;split at h
  .rename_i h1 h2 h3;cases h;obtain⟨d1,k1,k2⟩:=bD hE h2;obtain⟨d2,k3,k4⟩:=bD hE h3;cases d1<;>simp only[RT]at k2;cases d2<;>simp only[RT]at k4;obtain⟨rfl,rfl,rfl⟩:=k4;rename_i rows tok f;have hr:rows.isEmpty=false:=by
    have:=mI k2.1;cases rows with
    |nil=>exact absurd (fA (by simpa using this.symm)) hc
    |cons=>rfl
   simp only[ah,ho,valOf,k1,k3,cq,BL,DW,h1,MS,hr,aG,if_false,av]
  .rename_i h1 h2 h3;cases h;obtain⟨d1,k1,k2⟩:=bD hE h2;obtain⟨d2,k3,k4⟩:=bD hE h3;cases d1<;>simp only[RT]at k2;cases d2<;>simp only[RT]at k4;obtain⟨rfl,rfl,rfl⟩:=k4;obtain⟨rfl,rfl,rfl⟩:=k2;simp only[ah,ho,valOf,k1,k3,cq,BL,DW,h1,MS,List.isEmpty_nil,if_true,av]
  cases h
 cases h
theorem LM{b:Value}(hb:∃op t x y u,o.op=.binOp op t x y u)(h:∀{ι:lq}{S:ai}{env:List DV},cQ ι S te env->∀aD,ah P ty aI call yf (jy env) o S aD=some (.val b,S))(dr:Bool):Does P ty aI call yf B o nT te tS dr λv bZ bN ft=>v=.val b/\bZ=te/\bN=tS/\ft=⟨some [],false⟩:=by intro ι w env S aD hR hB hw hT hn hS;obtain⟨op,t,x,y,u,ho⟩:=hb;refine⟨.val b,S,ι,w,.val b,te,tS,⟨some [],false⟩,⟨some [],false⟩,λ_=>h hR.env aD,λ_=>?_,⟨id,λl hl=>⟨[],rfl,λj hj=>(by cases hj)⟩⟩,λl m _ hm j hj=>(by cases hm;cases hj),hR,by simp only[RT],hw,λ_ _ _=>rfl,Fr.refl _ _ _,hB,gM _ _,rfl,rfl,rfl,rfl⟩;have:=h hR.env aD;simp only[aJ,ho];rw[this];rfl
theorem adU{k:Nat}{b:Value}{Q:List TV->Prop}(ho:ops[k]? =some o)(hw:eD ops te o=some true)(hb:∃op t x y u,o.op=.binOp op t x y u)(h:∀{ι:lq}{S:ai}{env:List DV},cQ ι S te env->∀aD,ah P ty aI call yf (jy env) o S aD=some (.val b,S))(hq:WQ P ty aI call yf ops tS (k+1) (ki te o.dst (.val b)) Q):WQ P ty aI call yf ops tS k te Q:=by
 intro ι env S hR;obtain⟨aK,bZ,n1,n2,n3⟩:=hq ι (kC env o.dst (.val b)) S (oP hR (by simp only[RT]) _);refine⟨aK,bZ,?_,n2,n3⟩;rw[oV ho];have hs:=h hR.env S.length;obtain⟨op,t,x,y,u,hop⟩:=hb;have hq:dH P ty aI call yf (jy env) o S=some (.val b):=by simp only[dH,hop];rw[hs];rfl
 simp only[ry,iP hR.env hw,if_true,hq,n1]
def xF(P:Program)(ty:fP)(aI:bS)(call:bt)(yf:ew)(B:List Nat)(ops:Array Oper)(Q:List TV->List TB->Prop)(md:Nat)(nC:List TB)(k:Nat)(te:List TV)(tS:List TB)(fs:List dm):Prop:=
 match md with
 |0=>WL P ty aI call yf B ops k te tS Q
 |1=>tS=nC->WQ P ty aI call yf ops nC k te λte=>Q te nC
 |_=>WD P ty aI call yf B ops k te tS fs Q
theorem IW{Q:List TV->List TB->Prop}{md k:Nat}{nC:List TB}(qB:md<=2)(ho:ops[k]? =some o)(hw:eD ops te o=some false){K:KO}(hK:∀te tS fs,K te tS fs->xF P ty aI call yf B ops Q md nC (k+1) te tS fs)(h:OX o te tS fs K):xF P ty aI call yf B ops Q md nC k te tS fs:=by
 have h1:=hK _ _ _ (eT (K:=λte=>K te tS (fs++[gG])) h);rcases OE qB with rfl|rfl|rfl;.exact ZH ho hw h1
 .exactλe=>ZG ho hw (h1 e)
 exact ZN ho hw h1
variable {inl:Inl}
structure xo (P:Program) (ty:fP) (call:bt) (yf:ew) (T:fQ) (inl:Inl):Prop where
 c:∀g fn j A tS (K:TV->List TB->Prop),T.X g=some (fn,j)->inl.c fn j A tS K->wq call g A tS K
 y:∀k sP Ao xs tS (K:List TB->Prop),inl.y k sP Ao xs tS K->∃ps oJ body H7 yR YB,CF sP=some (ps,oJ,body)/\yf=uQ P ty H7 yR YB LL/\xs.length=ps.length/\(eH (oE Ao (ps.zip xs))++oF tS).contains k=false/\WT P ty H7 yR YB (oA k tS) LL sP true oJ (oE Ao (ps.zip xs)) (tS.set k .none) λe mM iT=>e=.normal/\WT P ty H7 yR YB (oA k tS) LL sP true body mM iT λe _ jV=>e=.normal/\jV[k]? =some .none/\K jV
theorem Zz{md k:Nat}{sP:FuncId}{Ao xs:List TV}(h:acy md te tS o=some (k,sP,Ao,xs)):md≠1/\∃f args argTypes,o.op=.call {callee:=.value f,args,argTypes}/\fM te f=some (.oq k sP Ao)/\lV te args.toList=some xs/\tS[k]? =some .loop:=by
 unfold acy at h;split at h
 .rename_i f args argTypes hm ho;split at h
  .rename_i k' aiW aiH e1;split at h;.rename_i FA e2 e3;cases h;exact⟨by simpa using hm,f,args,argTypes,ho,e1,e2,e3⟩
   cases h
  cases h
 cases h
def M6(ty:fP)(md:Nat)(o:Oper)(ue:List TV)(tV:List TB)(te:List TV)(tS:List TB):Prop:=
 match md with
 |0=>MP ty ue tV o=some (te,tS)
 |_=>ue=te/\tV=tS
theorem Ls(hT:qF T aI call){Q:List TV->List TB->Prop}{md n0 k:Nat}{nC tV:List TB}{ue:List TV}(qB:md<=2)(ho:ops[k]? =some o)(hw:eD ops ue o=some true)(mN:M6 ty md o ue tV te tS){K:KO}(hK:∀te tS fs,K te tS fs->xF P ty aI call yf B ops Q md nC (k+1) te tS fs)
  (hn:Az tS (oy md n0 k tS)=true) (hh:md=0\/ty.h o≠1) (h:It tt T md o te tS fs K):xF P ty aI call yf B ops Q md nC k ue tV fs:=by
 unfold It at h;split at h
 .rename_i g L targs tP hc;obtain⟨f,args,argTypes,fs1,cs1,xs,c1,c2,c3,c4,c5,c6,c7,c8,c9,c10⟩:=Sn (tt:=tt) hc;split at h
  .rename_i p s hm hs;obtain⟨hp,h⟩:=jf h;have hsp:=hT.M _ _ _ _ _ hs hp;have all:∀v t,s.holds v (t.map .agg)->∃tB,HY L t=some tB/\xF P ty aI call yf B ops Q md nC (k+1) (ki te o.dst v) (yD L tB tS) (fs++[Gw md L]):=λv t hv=>by
    have h1:=HM (R:=λv cs=>adt L cs λtB=>gH v λv=>gy te o.dst v λte=>bW (yD L tB tS) λtS=>K te tS (fs++[Gw md L])) h hv;unfold adt at h1;rw[GB]at h1;simp only at h1;split at h1;.rename_i tB hb;exact⟨tB,hb,hK _ _ _ (cO _ (K:=λtS=>K _ tS (fs++[Gw md L])) (eT (K:=λte=>bW (yD L tB tS) λtS=>K te tS (fs++[Gw md L])) (gK v (K:=λv=>gy te o.dst v λte=>bW (yD L tB tS) λtS=>K te tS (fs++[Gw md L])) h1)))⟩
    exact h1.elim
   rcases OE qB with rfl|rfl|rfl;.refine lz ho hw mN (Ow c1 c2 c3 c4 c7 c8 c9 hsp λv t hv=>(all v t hv).imp λ_ h=>h.1) ?_;rintro v bZ bN ft ⟨t,tB,hv,hb,rfl,rfl,-⟩;obtain⟨tB',e1,e2⟩:=all v t hv;rw[hb]at e1;cases e1;exact e2
   .cases hm
   obtain⟨rfl,rfl⟩:=mN;obtain⟨d1,d2,d3⟩:=c10 (by decide);refine tJ ho hw hn (Mp (tt:=tt) c1 (hh.resolve_left (by decide)) c2 c3 c4 c5 c6 d1 d2 d3 c7 c8 c9 hsp λv t hv=>(all v t hv).imp λ_ h=>h.1) ?_;rintro v bZ bN ft ⟨t,tB,hv,hb,rfl,rfl,rfl⟩;obtain⟨tB',e1,e2⟩:=all v t hv;rw[hb]at e1;cases e1;exact e2
  exact h.elim
 exact h.elim
theorem Le(hT:qF T aI call){Q:List TV->List TB->Prop}{md n0 k:Nat}{nC tV:List TB}{ue:List TV}(qB:md<=2)(ho:ops[k]? =some o)(hw:eD ops ue o=some true)(mN:M6 ty md o ue tV te tS){K:KO}(hK:∀te tS fs,K te tS fs->xF P ty aI call yf B ops Q md nC (k+1) te tS fs)
  (hn:Az tS (oy md n0 k tS)=true) (hh:md=0\/ty.h o≠1) (h:Ip tt T md o te tS fs K):xF P ty aI call yf B ops Q md nC k ue tV fs:=by
 unfold Ip at h;split at h
 .rename_i g kp targs ts hc;split at h
  .rename_i p s hs;obtain⟨hp,h⟩:=jf h;have hsp:=hT.C _ _ _ _ _ hs hp;have all:∀v cs,s.holds v cs->Kt md v cs (gH v λv=>gy te o.dst v λte=>cZ cs λcs=>bW (tS.set kp (.cells cs)) λtS=>K te tS (fs++[DI md kp])):=λv cs hv=>
    HM (R:=λv cs=>Kt md v cs (gH v λv=>gy te o.dst v λte=>cZ cs λcs=>bW (tS.set kp (.cells cs)) λtS=>K te tS (fs++[DI md kp]))) h hv
   have fin:∀v cs,s.holds v cs->xF P ty aI call yf B ops Q md nC (k+1) (ki te o.dst v) (tS.set kp (.cells cs)) (fs++[DI md kp]):=λv cs hv=>by have h1:=eT (gK v (K:=λv=>gy te o.dst v λte=>cZ cs λcs=>bW (tS.set kp (.cells cs)) λtS=>K te tS (fs++[DI md kp])) (LK (all v cs hv)).2);exact hK _ _ _ (cO _ (K:=λtS=>K _ tS (fs++[DI md kp])) (cz cs (K:=λcs=>bW (tS.set kp (.cells cs)) λtS=>K _ tS (fs++[DI md kp])) h1))
   rcases OE qB with rfl|rfl|rfl;.obtain⟨f,args,argTypes,fs1,cs1,xs,c1,c2,c3,c4,c5,c6,c7⟩:=R4 (tt:=tt) hc;refine lz ho hw mN (Oq c1 c2 c3 c4 c5 c6 c7 hsp) ?_;rintro v bZ bN ft ⟨Am,hv,rfl,rfl,-⟩;exact fin v Am hv
   .cases hc
   obtain⟨f,args,argTypes,fs1,cs1,xs,off,rest,c1,c2,c3,c4,c5,c6,c7,rfl⟩:=R5 (tt:=tt) hc;obtain⟨rfl,rfl⟩:=mN;refine tJ ho hw hn (Mo (tt:=tt) c1 (hh.resolve_left (by decide)) c2 c3 c4 c5 c6 c7 hsp λv cs hv=>(LK (all v cs hv)).1 rfl) ?_;rintro v bZ bN ft ⟨Am,hv,rfl,rfl,rfl⟩;exact fin v Am hv
  exact Ls hT qB ho hw mN hK hn hh h
 exact Ls hT qB ho hw mN hK hn hh h
theorem abg(hT:qF T aI call)(hI:xo P ty call yf T inl){Q:List TV->List TB->Prop}{md n0 k:Nat}{nC tV:List TB}{ue:List TV}(qB:md<=2)(ho:ops[k]? =some o)(hw:eD ops ue o=some true)(mN:M6 ty md o ue tV te tS){K:KO}(hK:∀te tS fs,K te tS fs->xF P ty aI call yf B ops Q md nC (k+1) te tS fs)
  (hn:Az tS (oy md n0 k tS)=true) (h:U3 ty tt T inl md (oy md n0 k tS) o te tS fs K):xF P ty aI call yf B ops Q md nC k ue tV fs:=by
 unfold U3 at h;split at h
 .rename_i k' sP Ao xs hx;obtain⟨hm,f,args,argTypes,c1,c2,c3,c4⟩:=Zz hx;obtain⟨ps,oJ,body,H7,yR,YB,hrf,hyf,hlen,hr,hw'⟩:=hI.y _ _ _ _ _ _ h;have hd:∀nT dr,Does P ty aI call yf B o nT te tS dr λv bZ bN ft=>∃jV,acz o te tS fs K k' jV/\v=.val (.bool true)/\bZ=te.map (uF tS k')/\bN=pO k' 0 tS (jV.set k' .loop)/\ft=⟨none,true⟩:=λnT dr=>Oo c1 hyf c2 hrf c3 c4 hlen hr hw' λjV hk=>by obtain⟨h0,-⟩:=iM hk;simp only[aA,aT]at h0;exact h0
  have fin:∀jV,acz o te tS fs K k' jV->xF P ty aI call yf B ops Q md nC (k+1) (ki (te.map (uF tS k')) o.dst (.val (.bool true))) (pO k' 0 tS (jV.set k' .loop)) (fs++[⟨none,true⟩]):=λjV hk=>by obtain⟨-,hk⟩:=iM hk;exact hK _ _ _ (cO _ (K:=λtS=>K _ tS (fs++[⟨none,true⟩])) (eT (K:=λte=>bW (pO k' 0 tS (jV.set k' .loop)) λtS=>K te tS (fs++[⟨none,true⟩])) (cz _ (K:=λte=>gy te o.dst (.val (.bool true)) λte=>bW (pO k' 0 tS (jV.set k' .loop)) λtS=>K te tS (fs++[⟨none,true⟩])) hk)))
  rcases OE qB with rfl|rfl|rfl;.refine lz ho hw mN (hd _ false) ?_;rintro v bZ bN ft ⟨jV,hv,rfl,rfl,rfl,rfl⟩;exact fin jV hv
  .exact(hm rfl).elim
  obtain⟨rfl,rfl⟩:=mN;refine tJ ho hw hn (hd _ true) ?_;rintro v bZ bN ft ⟨jV,hv,rfl,rfl,rfl,rfl⟩;exact fin jV hv
 split at h;.rename_i A fn j hx;obtain⟨rfl,f,args,argTypes,g,fs1,cs1,xs,c1,c2,c3,c4,rfl,c5⟩:=aaQ hx;refine lz ho hw mN (X0 c1 c2 c3 c4 (hI.c g fn j _ tS _ c5 h)) ?_;rintro v bZ bN ft ⟨rfl,hv⟩;exact hK _ _ _ (eT (K:=λte=>K te bN fs) (cz (gf tS te) (K:=λte=>gy te o.dst v λte=>K te bN fs) (gK v (K:=λv=>cZ (gf tS te) λte=>gy te o.dst v λte=>K te bN fs) hv)))
 split at h
 .rename_i hh
  replace hh:ty.h o=1:=by simpa using hh
  split at h;.exact Le hT qB ho hw mN hK hn (.inl rfl) h
  .rename_i g targs hc _ _;obtain⟨f,args,argTypes,fs1,cs1,xs,c1,c2,c3,c4,c5⟩:=LS hc;split at h;.rename_i p e s hs;obtain⟨hp,h⟩:=jf h;obtain⟨rfl,rfl⟩:=mN;refine tJ ho hw hn (Ou c1 hh c2 c3 c4 c5 (hT.O _ _ _ _ _ _ hs hp)) ?_;rintro v bZ bN ft ⟨tl,t,Mu,hv,hf,rfl,rfl,rfl,rfl⟩;have h1:=Fh (R:=λv=>UA e (oy 2 n0 k tV) (ty.TH o) v λv b=>gH v λv=>gy bZ o.dst v λte=>bW (pK tV (oy 2 n0 k tV) b) λtS=>K te tS (fs++[⟨some [oy 2 n0 k tV],true⟩])) h hv;simp only[UA,hf]at h1;exact hK _ _ _ (cO _ (K:=λtS=>K _ tS (fs++[⟨some [oy 2 n0 k tV],true⟩])) (eT (gK _ (K:=λv=>gy bZ o.dst v λte=>bW (pK tV (oy 2 n0 k tV) (.rows t e Mu false)) λtS=>K te tS (fs++[⟨some [oy 2 n0 k tV],true⟩])) h1)))
   exact h.elim
  exact h.elim
 rename_i hh
 replace hh:ty.h o≠1:=by simpa using hh
 split at h
 .rename_i g targs hc;obtain⟨f,args,argTypes,fs1,cs1,xs,c1,c2,c3,c4,c5⟩:=LS hc;split at h
  .rename_i p s hm hs;have hm:md=0:=by simpa using hm
   subst hm;obtain⟨hp,h⟩:=jf h;refine lz ho hw mN (Ov c1 hh c2 c3 c4 c5 (hT.N _ _ _ _ hs hp)) ?_;rintro v bZ bN ft ⟨ts,hq,rfl,rfl,rfl⟩;have e:pK tS tS.length (.cells ts)=tS++[.cells ts]:=by unfold pK;rw[if_neg (Nat.lt_irrefl _)]
   rw[e];exact hK _ _ _ (eT (K:=λte=>K te (tS++[.cells ts]) fs) (Oz (R:=λcs=>gy bZ o.dst (.ptr tS.length 0) λte=>K te (tS++[.cells cs]) fs) h hq))
  split at h
  .rename_i p s hs;obtain⟨hp,h⟩:=jf h;have hsp:=hT.I _ _ _ _ hs hp;have fin:∀v,s.uT v->xF P ty aI call yf B ops Q md nC (k+1) (ki te o.dst v) tS (fs++[gG]):=λv hv=>
    hK _ _ _ (eT (K:=λte=>K te tS (fs++[gG])) (gK v (K:=λv=>gy te o.dst v λte=>K te tS (fs++[gG])) (Fh (R:=λv=>gH v λv=>gy te o.dst v λte=>K te tS (fs++[gG])) h hv)))
   rcases OE qB with rfl|rfl|rfl
   .skip
    refine lz ho hw mN (Fg c1 hh c2 c3 c4 c5 hsp false) ?_;rintro v bZ bN ft ⟨hv,rfl,rfl,-⟩;exact fin v hv
   .obtain⟨rfl,rfl⟩:=mN;exactλe=>Wb ho hw c1 hh c2 c3 c4 c5 hsp λv hv=>fin v hv e
   skip
   obtain⟨rfl,rfl⟩:=mN;refine tJ ho hw hn (Fg c1 hh c2 c3 c4 c5 hsp true) ?_;rintro v bZ bN ft ⟨hv,rfl,rfl,rfl⟩;exact fin v hv
  exact h.elim
 exact Le hT qB ho hw mN hK hn (.inr hh) h
theorem La{Q:List TV->List TB->Prop}{md n0 k:Nat}{nC tV:List TB}{ue:List TV}(qB:md<=2)(ho:ops[k]? =some o)(hw:eD ops ue o=some true)(mN:M6 ty md o ue tV te tS){K:KO}(hK:∀te tS fs,K te tS fs->xF P ty aI call yf B ops Q md nC (k+1) te tS fs)
  (hn:Az tS (oy md n0 k tS)=true) {v:TV} (hb:Nb o) (hp:bP P ty tt te tS o=some (v,True)) (h:gy te o.dst v λte=>K te tS (fs++[gG])):xF P ty aI call yf B ops Q md nC k ue tV fs:=by
 have h1:=hK _ _ _ (eT (K:=λte=>K te tS (fs++[gG])) h);rcases OE qB with rfl|rfl|rfl
 .skip
  refine lz ho hw mN (lQ (Aa hb hp) trivial false) ?_;rintro v' bZ bN ft ⟨rfl,rfl,rfl,-⟩;exact h1
 .obtain⟨rfl,rfl⟩:=mN;exactλe=>II ho hw (e▸hp) trivial (h1 e)
 skip
 obtain⟨rfl,rfl⟩:=mN;refine tJ ho hw hn (lQ (Aa hb hp) trivial true) ?_;rintro v' bZ bN ft ⟨rfl,rfl,rfl,rfl⟩;rw[ae3 hb];exact h1
theorem Vp(hT:qF T aI call)(hI:xo P ty call yf T inl){Q:List TV->List TB->Prop}{md n0 k:Nat}{nC tV:List TB}{ue:List TV}(qB:md<=2)(ho:ops[k]? =some o)(hw:eD ops ue o=some true)(mN:M6 ty md o ue tV te tS){K:KO}(hK:∀te tS fs,K te tS fs->xF P ty aI call yf B ops Q md nC (k+1) te tS fs)
  (h:Za P ty tt T inl md n0 k o te tS fs K):xF P ty aI call yf B ops Q md nC k ue tV fs:=by
 unfold Za at h;split at h;.exact h.elim
 rename_i hn;split at h;.exact abg hT hI qB ho hw mN hK hn h
 split at h
 .rename_i v bZ bN f c hm;obtain⟨hc,h⟩:=h;have h1:=eT (cz bZ (K:=λte=>gy te o.dst v λte=>bW bN λtS=>K te tS (fs++[f])) (gK v (K:=λv=>cZ bZ λte=>gy te o.dst v λte=>bW bN λtS=>K te tS (fs++[f])) h));have h1:=hK _ _ _ (cO bN (K:=λtS=>K _ tS (fs++[f])) h1);unfold abL at hm;split at hm
  .rename_i v2 g c2 hr;cases hm;rcases OE qB with rfl|rfl|rfl;.refine lz ho hw mN (Ff hr hc false) ?_;rintro v' Ti jV ft ⟨rfl,rfl,rfl,rfl⟩;exact h1
   .obtain⟨rfl,rfl⟩:=mN;exactλe=>Wa ho hw (e▸hr) hc (h1 e)
   obtain⟨rfl,rfl⟩:=mN;refine tJ ho hw hn (Ff hr hc true) ?_;rintro v' Ti jV ft ⟨rfl,rfl,rfl,rfl⟩;exact h1
  split at hm;.cases hm
  rename_i h91;split at hm
  .rename_i g jV hs;cases hm;rcases OE qB with rfl|rfl|rfl;.refine lz ho hw mN (Fe hs false) ?_;rintro v' Ti jV ft ⟨rfl,rfl,rfl,rfl⟩;exact h1
   .exact absurd rfl h91
   obtain⟨rfl,rfl⟩:=mN;refine tJ ho hw hn (Fe hs true) ?_;rintro v' Ti jV ft ⟨rfl,rfl,rfl,rfl⟩;exact h1
  split at hm;.rename_i h90;subst h90;simp only[af,ay]at hm;obtain⟨⟨v2,Ti,jV,c2⟩,hs,rfl,rfl,rfl,rfl,rfl⟩:=hm;refine lz ho hw mN (Ot hs hc) ?_;rintro v' te3 tS3 ft ⟨rfl,rfl,rfl⟩;exact h1
  cases hm
 split at h
 .rename_i v bN c hm;have h0:md=0:=by
   unfold mapM at hm;split at hm;.rfl
   cases hm
  subst h0;refine lz ho hw mN (XZ hm h.1) ?_;rintro v' bZ jV ft ⟨rfl,rfl,rfl⟩;have h1:=eT (gK v' (K:=λv=>gy bZ o.dst v λte=>bW jV λtS=>K te tS (fs++[⟨none,true⟩])) h.2);exact hK _ _ _ (cO jV (K:=λtS=>K _ tS (fs++[⟨none,true⟩])) h1)
 split at h;.rename_i v c ha;exact La qB ho hw mN hK hn (SM ha) (Oy (tt:=tt) ha h.1) h.2
 split at h;.rename_i b _ hb;exact La qB ho hw mN hK hn (abc hb) (X4 (tt:=tt) hb) h
 .rename_i b c _ _ hb;obtain⟨hc,h⟩:=h;have h1:=hK _ _ _ (eT (K:=λte=>K te tS (fs++[gG])) h);rcases OE qB with rfl|rfl|rfl;.refine lz ho hw mN (LM (sk (P:=P) (aI:=aI) (call:=call) (yf:=yf) (ι:=gd) (S:=[]) hb hc).1 (λhE aD=>(sk hb hc).2 hE aD) false) ?_;rintro v' bZ bN ft ⟨rfl,rfl,rfl,-⟩;exact h1
  .obtain⟨rfl,rfl⟩:=mN;exactλe=>adU ho hw (sk (P:=P) (aI:=aI) (call:=call) (yf:=yf) (ι:=gd) (S:=[]) hb hc).1 (λhE aD=>(sk hb hc).2 hE aD) (h1 e)
  obtain⟨rfl,rfl⟩:=mN;refine tJ ho hw hn (LM (sk (P:=P) (aI:=aI) (call:=call) (yf:=yf) (ι:=gd) (S:=[]) hb hc).1 (λhE aD=>(sk hb hc).2 hE aD) true) ?_;rintro v' bZ bN ft ⟨rfl,rfl,rfl,rfl⟩;exact h1
 have key:md≠1->∀q:TR,stepT P ty tt te tS o (oy md n0 k tS)=some q->q.c->K (ki q.te o.dst q.v) q.tS (fs++[⟨some q.FQ,nU o⟩])->xF P ty aI call yf B ops Q md nC k ue tV fs:=by
  intro hm q hq hc hk;have h1:=hK _ _ _ hk;rcases OE qB with rfl|rfl|rfl
  .skip
   refine lz ho hw mN (lQ hq hc false) ?_;rintro v' bZ bN ft ⟨rfl,rfl,rfl,-⟩;exact h1
  .exact(hm rfl).elim
  skip
  obtain⟨rfl,rfl⟩:=mN;refine tJ ho hw hn (lQ hq hc true) ?_;rintro v' bZ bN ft ⟨rfl,rfl,rfl,rfl⟩;exact h1
 split at h
 .split at h
  .rename_i q hq;have fin:∀{R:Prop},q.2->K (ki te o.dst q.1) tS (fs++[gG])->xF P ty aI call yf B ops Q 1 nC k ue tV fs:=λ{_} hc hk=>by obtain⟨h8,h9⟩:=mN;subst h8 h9;exactλe=>II ho hw (e▸(show bP P ty tt ue tV o=some (q.1,q.2)from hq)) hc (hK _ _ _ hk e)
   split at h;.exact fin (R:=True) h.1 (eT (K:=λte=>K te tS (fs++[gG])) (gK q.1 (K:=λv=>gy te o.dst v λte=>K te tS (fs++[gG])) h.2))
   rename_i pX;exact fin (R:=True) (Lm pX hq) (eT (K:=λte=>K te tS (fs++[gG])) (gK q.1 (K:=λv=>gy te o.dst v λte=>K te tS (fs++[gG])) h))
  exact h.elim
 rename_i hm;split at h
 .rename_i q hq;split at h;.refine key (λe=>hm e) q hq h.1 ?_;have h1:=cz q.te (gK q.v (K:=λv=>cZ q.te λte=>gy te o.dst v λte=>bW q.tS λtS=>K te tS (fs++[⟨some q.FQ,nU o⟩])) h.2);exact cO q.tS (K:=λtS=>K _ tS _) (eT h1)
  rename_i pX;refine key (λe=>hm e) q hq (Xu pX hq) ?_;have h1:=eT (gK q.v (K:=λv=>gy q.te o.dst v λte=>bW q.tS λtS=>K te tS (fs++[⟨some q.FQ,nU o⟩])) h);exact cO q.tS (K:=λtS=>K _ tS _) h1
 exact h.elim
theorem KW{n:Int}{K:Nat->Prop}:∀(c j:Nat),Nf n K c j->∃i:Nat,n=i/\K i
 |0,_,h=>h.elim
 |c+1,j,h=>by
  obtain⟨h1,h2⟩:=wu h;by_cases e:n=(j:Int);.exact⟨j,e,h1 (js e)⟩
  exact KW c (j+1) (h2 (qQ e))
theorem ae5{t c:Nat}{n:Int}(h:adu ty te o=some (t,n,c)):te[t]? =some (.val (.int .i64 n)):=by
 unfold adu at h;split at h
 .split at h;.rename_i h1 h2;cases h;exact h2
  cases h
 .split at h;.rename_i h1 h2;cases h;exact h2
  cases h
 cases h
theorem ad8{Q:List TV->List TB->Prop}{md n0 k:Nat}{nC tV:List TB}{ue:List TV}(qB:md<=2)(ho:ops[k]? =some o)(hw:eD ops ue o=some true)(mN:M6 ty md o ue tV te tS){K:KO}(hK:∀te tS fs,K te tS fs->xF P ty aI call yf B ops Q md nC (k+1) te tS fs)
  (hn:Az tS (oy md n0 k tS)=true) {q:adv} (hq:CD ty tt te tS o=some q) (h:Y5 md (oy md n0 k tS) o te tS fs K q):xF P ty aI call yf B ops Q md nC k ue tV fs:=by
 have quiet:∀{v v2:TV}{id:List Nat},bP P ty tt te tS o=some (v,True)->((∃t x i,o.op=.indexAddr t x i)\/∃t a,o.op=.load t a)->lD te o=id->Ta v2 v->xF P ty aI call yf B ops Q md nC (k+1) (ki te o.dst v2) tS (fs++[⟨some id,false⟩])->xF P ty aI call yf B ops Q md nC k ue tV fs:=by
  intro v v2 id hp hi hr hv hb;rcases OE qB with rfl|rfl|rfl
  .obtain⟨k1,k2⟩:=EP (nT:=tS.length) hp hi;refine lz ho hw mN (Db (lQ k1 trivial false) (Q':=λv bZ bN ft=>v=v2/\bZ=te/\bN=tS) ?_) ?_;.rintro _ _ _ _ ⟨rfl,rfl,rfl,rfl⟩;exact⟨v2,_,_,⟨none,true⟩,hv,Dr.refl _,TL.refl _,λ_=>rfl,λ_ hl=>by(cases hl),rfl,rfl,rfl⟩
   rintro _ _ _ _ ⟨rfl,rfl,rfl⟩;exact hb
  .obtain⟨rfl,rfl⟩:=mN;exactλe=>II ho hw (e▸hp) trivial (afS (adW hv _ _) (hb e))
  obtain⟨rfl,rfl⟩:=mN;obtain⟨k1,k2⟩:=EP (nT:=n0+k) hp hi;refine tJ ho hw hn (Db (lQ k1 trivial true) (Q':=λv bZ bN ft=>v=v2/\bZ=ue/\bN=tV/\ft=⟨some id,false⟩) ?_) ?_;.rintro _ _ _ _ ⟨rfl,rfl,rfl,rfl⟩;exact⟨v2,_,_,⟨some id,false⟩,hv,Dr.refl _,TL.refl _,λe=>(by rw[k2]at e;exact e),λl hl=>⟨l,(by rw[hr];exact hl),λ_ h=>h⟩,rfl,rfl,rfl,rfl⟩
  rintro _ _ _ _ ⟨rfl,rfl,rfl,rfl⟩;exact hb
 have go:∀{v:TV}{bZ:List TV}{bN:List TB}{ft:dm},md≠1->(∀nT dr,nT=oy md n0 k tS->Does P ty aI call yf B o nT te tS dr λv' ur uu ft'=>v'=v/\ur=bZ/\uu=bN/\ft'=ft)->xF P ty aI call yf B ops Q md nC (k+1) (ki bZ o.dst v) bN (fs++[ft])->xF P ty aI call yf B ops Q md nC k ue tV fs:=by
  intro v bZ bN ft hm hd hb;rcases OE qB with rfl|rfl|rfl;.refine lz ho hw mN (hd _ false rfl) ?_;rintro _ _ _ _ ⟨rfl,rfl,rfl,rfl⟩;exact hb
  .exact(hm rfl).elim
  obtain⟨rfl,rfl⟩:=mN;refine tJ ho hw hn (hd _ true rfl) ?_;rintro _ _ _ _ ⟨rfl,rfl,rfl,rfl⟩;exact hb
 cases q with
 |ix v c=>
  obtain⟨hc,h⟩:=h;obtain⟨h1,h2⟩:=ad9 (P:=P) hq hc;have hr:lD te o=[]:=by obtain⟨t,x,i,e⟩:=h2;simp only[lD,e]
  exact quiet h1 (.inl h2) hr (Ta.refl _) (hK _ _ _ (eT (K:=λte=>K te tS (fs++[gG])) h))
 |ld0 id off t x=>obtain⟨hc,h⟩:=iM h;obtain⟨⟨ap,h1⟩,h2,h3⟩:=ZZ (P:=P) hq (by simpa using hc);refine quiet h1 (.inr h3) h2 (λι S d hd=>?_) (hK _ _ _ (eT (v:=.sl t x .no) (K:=λte=>K te tS (fs++[⟨some [id],false⟩])) h));cases d<;>simp only[RT]at hd⊢;exact⟨hd.1,trivial⟩
 |ld id off u c l b=>
  cases b with
  |true=>obtain⟨x,g,hx,h⟩:=h;obtain⟨h1,h2,h3⟩:=Vf (P:=P) hq hx;refine quiet h1 (.inr h3) h2 (λι S d hd=>?_) (hK _ _ _ (eT (v:=.sl u x (.Cz g)) (K:=λte=>K te tS (fs++[⟨some [id],false⟩])) h));cases d<;>simp only[RT,pQ]at hd⊢;exact hd
  |false=>obtain⟨x,hx,h⟩:=h;obtain⟨h1,h2,h3⟩:=Vf (P:=P) hq hx;exact quiet h1 (.inr h3) h2 (Ta.refl _) (hK _ _ _ (eT (v:=.sl u x .no) (K:=λte=>K te tS (fs++[⟨some [id],false⟩])) h))
 |st id off c l u y g=>
  simp only[Y5]at h;split at h;.exact h.elim
  rename_i hm;obtain⟨j,hj,hl,h⟩:=h;exact go (by simpa using hm) (λnT dr _=>aa6 hq hj hl dr) (hK _ _ _ (cO _ (K:=λtS=>K _ tS (fs++[⟨some [id],true⟩])) (eT (K:=λte=>bW (tS.set id (.cells (c::l.set j (.sl u y (.kA g))))) λtS=>K te tS (fs++[⟨some [id],true⟩])) h)))
 |ap e s g k' l c=>
  simp only[Y5]at h;split at h
  .rename_i lo n hm he;obtain⟨⟨h1,h2⟩,hc,h⟩:=h;have e1:(pU e s 0 tS).1=lo:=by rw[he]
   have e2:(pU e s 0 tS).2=n:=by rw[he]
   have hd:=λdr=>aa7 (P:=P) (aI:=aI) (call:=call) (yf:=yf) (B:=B) (nT:=oy md n0 k tS) hq hc (by rw[e1];exact h1) (by rw[e1,e2];exact h2) dr;rw[e1,e2]at hd;exact go (by simpa using hm) (λnT dr hnT=>by subst hnT;exact hd dr) (hK _ _ _ (cO _ (K:=λbN=>K _ bN (fs++[⟨some (oy md n0 k tS::List.range' lo n),true⟩])) (eT (v:=.sl k' l (.Cz g)) (K:=λte=>bW (Ii tS g tS) λbN=>K te bN (fs++[⟨some (oy md n0 k tS::List.range' lo n),true⟩])) (cz _ (K:=λte=>gy te o.dst (.sl k' l (.Cz g)) λte=>bW (Ii tS g tS) λbN=>K te bN (fs++[⟨some (oy md n0 k tS::List.range' lo n),true⟩])) h))))
  exact h.elim
theorem Vo(hT:qF T aI call)(hI:xo P ty call yf T inl){Q:List TV->List TB->Prop}{md n0 k:Nat}{nC tV:List TB}{ue:List TV}(qB:md<=2)(ho:ops[k]? =some o)(hw:eD ops ue o=some true)(mN:M6 ty md o ue tV te tS){K:KO}(hK:∀te tS fs,K te tS fs->xF P ty aI call yf B ops Q md nC (k+1) te tS fs)
  (h:Q5 P ty tt T inl md n0 k o te tS fs K):xF P ty aI call yf B ops Q md nC k ue tV fs:=by
 unfold Q5 at h;split at h
 .split at h;.rename_i hq _ hn;exact ad8 qB ho hw mN hK hn hq h
  exact h.elim
 split at h;.rename_i t n c ha;obtain⟨i,rfl,hi⟩:=KW _ _ h;have:=qI te t _ hi;rw[qf (ae5 ha)]at this;exact Vp hT hI qB ho hw mN hK this
 exact Vp hT hI qB ho hw mN hK h
theorem UC(hT:qF T aI call)(hI:xo P ty call yf T inl){Q:List TV->List TB->Prop}{md n0 k:Nat}{nC:List TB}(qB:md<=2)(ho:ops[k]? =some o)(hw:eD ops te o=some true){K:KO}(hK:∀te tS fs,K te tS fs->xF P ty aI call yf B ops Q md nC (k+1) te tS fs)
  (h:opK P ty tt T inl md n0 k o te tS fs K):xF P ty aI call yf B ops Q md nC k te tS fs:=by
 unfold opK at h;split at h
 .split at h;.rename_i mM iT hp;exact Vo hT hI qB ho hw hp hK (cO iT (K:=λtS=>Q5 P ty tt T inl 0 n0 k o mM tS fs K) (cz mM (K:=λte=>bW iT λtS=>Q5 P ty tt T inl 0 n0 k o te tS fs K) h))
  exact h.elim
 rename_i hno;refine Vo hT hI qB ho hw ?_ hK h;rcases OE qB with rfl|rfl|rfl
 .show MP ty te tS o=some (te,tS);unfold MP;split;.rename_i h2;exact(hno rfl h2).elim
  rfl
 .exact⟨rfl,rfl⟩
 exact⟨rfl,rfl⟩
theorem ab7{b:Bool}(h:gdT ops te o=.no b):eD ops te o=some b:=by
 unfold gdT at h;unfold eD;split at h;.cases h;rename_i e;rw[e]
 rename_i e;rw[e];dsimp only;split at h
 .rename_i e1;rw[e1];dsimp only;split at h;.cases h
  .cases h
  .cases h;rename_i v hv e2;rw[e2];split<;>simp_all
  cases h
 cases h;rename_i e1;rw[e1]
theorem aeQ{d:Tmp}{b want:Bool}(h:gdT ops te o=.ask d b want):te[d]? =some (.val (.bool b))/\eD ops te o=some (match want with|true=>b|false=>!b):=by
 unfold gdT at h;unfold eD;split at h;.cases h
 rename_i e;rw[e];dsimp only;split at h
 .rename_i e1;rw[e1];dsimp only;split at h;.cases h;rename_i e2;rw[e2];cases want<;>exact⟨rfl,rfl⟩
  .cases h
  .cases h
  cases h
 cases h
theorem DR(hT:qF T aI call)(hI:xo P ty call yf T inl){Q:List TV->List TB->Prop}{md n0:Nat}{nC:List TB}(qB:md<=2){K:KO}(hK:∀te tS fs,K te tS fs->xF P ty aI call yf B ops Q md nC ops.size te tS fs):
  ∀(r:List Oper)(k:Nat)(te:List TV)(tS:List TB)(fs:List dm),ops.toList.drop k=r->qD P ty tt T inl md n0 ops r k te tS fs K->xF P ty aI call yf B ops Q md nC k te tS fs
 |[],k,te,tS,fs,hr,h=>by
  have hk:ops.size<=k:=by have:=List.drop_eq_nil_iff.1 hr;simpa using this
  have h1:=hK te tS fs h;rcases OE qB with rfl|rfl|rfl;.intro ι env S hR hB;have:=h1 ι env S hR hB;rw[j5 (by simp)]at this;rw[j5 (by simpa using hk)];exact this
  .intro e ι env S hR;have:=h1 e ι env S hR;rw[j5 (by simp)]at this;rw[j5 (by simpa using hk)];exact this
  skip
  intro ι w env S n0 hR hB hw hn;have:=h1 ι w env S n0 hR hB hw (λj hj BG=>by omega);rw[j5 (by simp)]at this;rw[j5 (by simpa using hk)];obtain⟨aK,S',xD,ι',w',bZ,bN,ft,e1,e2,e3,e4,e5,e6,e7,e8,e9⟩:=this;exact⟨aK,S',xD,ι',w',bZ,bN,ft,e1,e2,λj _=>e3 j λi hi JO=>by omega,e4,e5,e6,e7,⟨e8.1,λj _ hn=>e8.2 j (λi hi JO=>by omega) hn⟩,e9⟩
 |o::r,k,te,tS,fs,hr,h=>by
  obtain⟨ho,Ar⟩:=Ml hr;have ih:∀te tS fs,qD P ty tt T inl md n0 ops r (k+1) te tS fs K->xF P ty aI call yf B ops Q md nC (k+1) te tS fs:=λte tS fs=>DR hT hI qB hK r (k+1) te tS fs Ar.symm;simp only[qD]at h;split at h;.rename_i hg;exact UC hT hI qB ho (ab7 hg) ih h
  .rename_i hg;exact IW qB ho (ab7 hg) ih h
  .rename_i d b want hg;obtain⟨h1,h2⟩:=aeQ hg;split at h
   .obtain⟨k1,k2⟩:=wu h;cases b with
    |true=>have:=qI te d _ (k1 rfl);rw[qf h1]at this;exact UC hT hI qB ho h2 ih this
    |false=>have:=qI te d _ (k2 rfl);rw[qf h1]at this;exact IW qB ho h2 ih this
   obtain⟨k1,k2⟩:=wu h;cases b with
   |true=>have:=qI te d _ (k1 rfl);rw[qf h1]at this;exact IW qB ho h2 ih this
   |false=>have:=qI te d _ (k2 rfl);rw[qf h1]at this;exact UC hT hI qB ho h2 ih this
  exact h.elim
end Go.Tv
