import Derived.Test.YtadeehilamokkaaGreatDoorPk09
namespace Go.Tv
open Go Go.Di Go.Proofs
theorem uY{b:Bool}{A B:Prop}(h:eD b A B):(b=true->A)/\(b=false->B):=by cases b<;>exact⟨λe=>by cases e<;>exact h,λe=>by cases e<;>exact h⟩
theorem iE{b:Bool}{A:Prop}(h:eD b A False):b=true/\A:=by cases b;exact h.elim;exact⟨rfl,h⟩
theorem kJ:∀{l:List Prop},cR l↔∀p∈l,p
 |[]=>by simp[cR]
 |p::l=>by have:=kJ (l:=l);simp only[cR,this,aX,forall_eq_or_imp]
theorem iw:∀{l:List Prop}{R:Prop},zF l R->cR l/\R
 |[],_,h=>⟨trivial,h⟩
 |p::l,R,h=>by obtain⟨h1,h2⟩:=iw h.2;exact⟨kJ.2 (by rintro q hq;rcases aX.1 hq with rfl|hq;exact h.1;exact kJ.1 h1 q hq),h2⟩
theorem jD{l m:List Prop}(h:cR (l++m)):cR l/\cR m:=by rw[kJ]at h;exact⟨kJ.2 λp hp=>h p (pY _ hp),kJ.2 λp hp=>h p (List.mem_append_right _ hp)⟩
theorem lX:∀{l:List Prop}{R:Prop},impl l R->cR l->R
 |[],_,h,_=>h
 |p::l,R,h,k=>by rw[kJ]at k;exact lX (h (k p (gG ..))) (kJ.2 λq hq=>k q (mH _ hq))
theorem lE{o:Option (List Prop)}{K:Prop}(h:ask o K):∃l,o=some l/\cR l/\K:=by
 cases o with
 |none=>exact h.elim
 |some l=>exact⟨l,rfl,iw h⟩
theorem HK{R K:TV->cn->List Prop->Prop}:∀{s:sX},s.all R->s.some K->∃v cs fs,R v cs fs/\K v cs fs
 |.ex _ _,h,⟨x,k⟩=>HK (h x) k
 |.res v cs fs,h,k=>⟨v,cs,fs,h,k⟩
theorem G2{R:TV->cn->Prop}{v:TV}{cs:cn}{s:sX}(h:s.all λv cs fs=>impl fs (R v cs))(k:s.holds v cs):R v cs:=by obtain⟨v',iq,fs,h,rfl,rfl,hf⟩:=HK h k;exact lX h hf
theorem ES{R:TV->Prop}{v:TV}{s:sX}(h:s.all λv _ fs=>impl fs (R v))(k:s.tK v):R v:=by obtain⟨v',iq,fs,h,rfl,hf⟩:=HK h k;exact lX h hf
theorem Od{R:cn->Prop}{cs:cn}{s:sX}(h:s.all λ_ cs fs=>impl fs (R cs))(k:s.zW cs):R cs:=by obtain⟨v',iq,fs,h,rfl,hf⟩:=HK h k;exact lX h hf
mutual
theorem gb:∀(v:TV){K:TV->Prop},fV v K->K v
 |.unk,_,h=>h
 |.val v,_,h=>by cases v<;>exact h
 |.jo,_,h=>h
 |.agg l,K,h=>by simp only[fV]at h;exact ct l (K:=λl=>K (.agg l)) h
 |.tup l,K,h=>by simp only[fV]at h;exact ct l (K:=λl=>K (.tup l)) h
 |.sl _ _ _,_,h=>h
 |.ptr _ _,_,h=>h
 |.eU _ _ _ _,_,h=>h
 |.mp _,_,h=>h
 |.so _ _,_,h=>h
 |.sp _ _ _ _,_,h=>h
 |.nj k fn te,K,h=>by simp only[fV]at h;exact ct te (K:=λte=>K (.nj k fn te)) h
 |.fn f a b,K,h=>by simp only[fV]at h;exact ct b (K:=λb=>K (.fn f a b)) (ct a (K:=λa=>cL b λb=>K (.fn f a b)) h)
theorem ct:∀(l:cn){K:cn->Prop},cL l K->K l
 |[],_,h=>h
 |a::l,K,h=>by have h1:=gb a (K:=λa=>match qn a with|true=>K (a::l)|false=>cL l λl=>K (a::l)) (by simp only[cL]at h;exact h);split at h1;exact h1;exact ct l (K:=λl=>K (a::l)) h1
end
theorem cv:∀(l:cp){K:cp->Prop},bN l K->K l
 |[],_,h=>h
 |.cells c::l,K,h=>cv l (K:=λl=>K (.cells c::l)) (ct c (K:=λc=>bN l λl=>K (.cells c::l)) h)
 |.none::l,K,h=>cv l (K:=λl=>K (.none::l)) h
 |.loop::l,K,h=>cv l (K:=λl=>K (.loop::l)) h
 |.own e s::l,K,h=>cv l (K:=λl=>K (.own e s::l)) h
 |.map kt c::l,K,h=>cv l (K:=λl=>K (.map kt c::l)) h
 |.rows t e c z::l,K,h=>cv l (K:=λl=>K (.rows t e c z::l)) h
theorem pM:∀(l:cn)(n:Nat)(v:TV){K:cn->Prop},Fa l n v K->K (l.set n v)
 |[],_,_,_,h=>h
 |_::_,0,_,_,h=>h
 |a::l,n+1,v,K,h=>pM l n v (K:=λl=>K (a::l)) h
theorem ey{te:cn}{dst:Option Tmp}{v:TV}{K:cn->Prop}(h:fQ te dst v K):K (jI te dst v):=by
 cases dst with
 |none=>exact h
 |some d=>exact pM te d v h
theorem oP:∀{l:cn}{n:Nat}{v:TV},l[n]? =some v->l.set n v=l
 |[],_,_,h=>by simp at h
 |_::_,0,_,h=>by simp only[dB,aF]at h;rw[h];rfl
 |a::l,n+1,v,h=>by rw[List.set_cons_succ,oP (l:=l) (by simpa using h)]
mutual
theorem Dj:∀{a b:TV}{l:List Prop},X9 a b=some l->cR l->a=b
 |a,b,l,h,k=>by
  unfold X9 at h;split at h;rfl;split at h;rename_i hk;subst hk;cases h;rw[show _=_ from k.1];cases h;cases h;rw[show _=_ from k.1]
  cases h;rw[show _=_ from k.1]
  rfl;rw[tL h k];rw[tL h k];split at h;rename_i ht;subst ht;cases h;cases(show _=_ from k.1);rfl
  cases h;split at h;rename_i ht;subst ht;cases h;cases(show _=_ from k.1);rfl
  cases h;split at h;rename_i ht;subst ht;split at h;rename_i hg;subst hg;cases h;cases(show _=_ from k.1);rfl
  cases h;cases h;split at h;rename_i ht;subst ht;split at h;rename_i hb;subst hb;cases h;cases(show _=_ from k.1);rfl;cases h;cases h
  grind
  grind
  split at h;rename_i ht;obtain⟨rfl,rfl⟩:=ht;rw[tL h k]
  cases h
  grind
  split at h;rename_i ht;subst ht;cases h;obtain⟨k1,k2,k3⟩:=k;cases(show _=_ from k1);cases(show _=_ from k2);cases(show _=_ from k3.1);rfl
  cases h;split at h;rename_i hf;subst hf;split at h;rename_i x y h1 h2;cases h;obtain⟨k1,k2⟩:=jD k;rw[tL h1 k1,tL h2 k2];cases h;cases h;cases h
theorem tL:∀{a b:cn}{l:List Prop},Qv a b=some l->cR l->a=b
 |[],[],_,_,_=>rfl
 |a::l,b::m,_,h,k=>by simp only[Qv]at h;split at h;simp only[af]at h;obtain⟨x,h1,rfl⟩:=h;obtain⟨k1,k2⟩:=jD k;rw[Dj h1 k1,(show l=m from k2.1)];split at h;rename_i x y h1 h2;cases h;obtain⟨k1,k2⟩:=jD k;rw[Dj h1 k1,tL h2 k2];cases h
 |[],_::_,_,h,_=>by simp[Qv]at h
 |_::_,[],_,h,_=>by simp[Qv]at h
end
def LeV(u v:TV):Prop:=∀l m,uD l m->uD (u::l) (v::m)
mutual
theorem HR:∀{v u:TV}{l:List Prop},leT v u=some l->cR l->LeV u v
 |v,u,l,h,k=>by unfold leT at h;split at h;exactλ_ _=>.unk;split at h;rename_i ht;subst ht;cases h;cases(show _=_ from k.1);exactλ_ _=>.no;cases h;split at h;rename_i ht;subst ht;cases h;cases(show _=_ from k.1);exactλ_ _=>.stop;cases h;split at h;split at h;rename_i ht;subst ht;cases h;cases(show _=_ from k.1);exactλ_ _=>.o5;cases h;cases h;cases h;cases(show _=_ from k.1);exactλ_ _=>.jo;rename_i a b;have:=ya h k;exactλ_ _=>.agg this;rw[Dj h k];exactλ_ _=>.same
theorem ya:∀{v u:cn}{l:List Prop},Hu v u=some l->cR l->uD u v
 |[],[],_,_,_=>.nil
 |a::l,b::m,_,h,k=>by simp only[Hu]at h;split at h;simp only[af]at h;obtain⟨x,h1,rfl⟩:=h;obtain⟨k1,k2⟩:=jD k;exact HR h1 k1 _ _ k2.1;split at h;rename_i x y h1 h2;cases h;obtain⟨k1,k2⟩:=jD k;exact HR h1 k1 _ _ (ya h2 k2);cases h
 |[],_::_,_,h,_=>by simp[Hu]at h
 |_::_,[],_,h,_=>by simp[Hu]at h
end
theorem aao:∀{v u:cp}{l:List Prop},qg v u=some l->cR l->BR u v
 |v,u,l,h,k=>by
  induction u generalizing v l with
  |nil=>exact .nil
  |cons b m ih=>
   cases v with
   |nil=>
    cases b with
    |own e s=>exact .new (ih _ _ h k)
    |_=>simp[qg]at h
   |cons a v=>
    cases b with
    |none=>exact .none (ih _ _ (by simpa [qg]using h) k)
    |loop=>
     cases a with
     |loop=>exact .loop (ih _ _ (by simpa [qg]using h) k)
     |_=>simp[qg]at h
    |cells c=>
     cases a with
     |cells d=>simp only[qg]at h;split at h;rename_i x y h1 h2;cases h;obtain⟨k1,k2⟩:=jD k;exact .cells (ya h1 k1) (ih _ _ h2 k2);cases h
     |_=>simp[qg]at h
    |own e s=>
     cases a with
     |own e' s'=>simp only[qg]at h;split at h;rename_i he;obtain⟨rfl,rfl⟩:=he;exact .own (ih _ _ h k);cases h
     |_=>simp[qg]at h
    |map kt c=>
     cases a with
     |map kt' c'=>simp only[qg]at h;split at h;rename_i he;subst he;split at h;rename_i y h2;cases h;obtain⟨k1,k2⟩:=k;cases(show _=_ from k1);exact .map (ih _ _ h2 k2);cases h;cases h
     |_=>simp[qg]at h
    |rows t e c z=>
     cases a with
     |rows t' e' c' z'=>simp only[qg]at h;split at h;rename_i he;subst he;split at h;rename_i hez;obtain⟨rfl,rfl⟩:=hez;split at h;rename_i y h2;cases h;obtain⟨k1,k2⟩:=k;cases(show _=_ from k1);exact .rows (ih _ _ h2 k2);cases h;cases h;cases h
     |_=>simp[qg]at h
theorem yQ{sl:List (Nat×TV)}{keep:Nat}:∀{i:Nat}{te:cn}{l:List Prop},vM sl i te=some l->cR l->uD (nH sl keep i te) te
 |_,[],_,_,_=>.nil
 |i,v::te,l,h,k=>by simp only[vM]at h;simp only[nH];split at h;rename_i p hp;split at h;rename_i x y h1 h2;cases h;obtain⟨k1,k2⟩:=jD k;exact HR h1 k1 _ _ (yQ h2 k2);cases h;rename_i hp;split;exact .same (yQ h k);exact .unk (yQ h k)
theorem ir{pl:List (Nat×cn)}{mp:MpL}{own:List (Nat×Nat)}:∀{i:Nat}{tS:cp}{l:List Prop},iV pl mp i tS=some l->cR l->BR (tj pl mp i tS++own.map λp=>TB.own p.1 p.2) tS
 |_,[],_,_,_=>KW own
 |i,.none::tS,l,h,k=>by simp only[iV]at h;exact .none (ir h k)
 |i,.loop::tS,l,h,k=>by simp only[iV]at h;exact .loop (ir h k)
 |i,.own _ _::tS,l,h,k=>by simp only[iV]at h;exact .own (ir h k)
 |i,.cells c::tS,l,h,k=>by simp only[iV]at h;simp only[tj,j9];split at h;rename_i p hp;split at h;rename_i x y h1 h2;cases h;obtain⟨k1,k2⟩:=jD k;exact .cells (ya h1 k1) (ir h2 k2);cases h;exact .cells (uD.refl c) (ir h k)
 |i,.map kt c::tS,l,h,k=>by simp only[iV]at h;simp only[tj,j9];split at h;rename_i a kt' c' hp;split at h;rename_i he;subst he;split at h;rename_i y h2;cases h;obtain⟨k1,k2⟩:=k;cases(show c=c' from k1);exact .map (ir h2 k2);cases h;cases h;exact .map (ir h k)
 |i,.rows kt e c z::tS,l,h,k=>by simp only[iV]at h;simp only[tj,j9];split at h;rename_i a kt' c' hp;split at h;rename_i he;subst he;split at h;rename_i y h2;cases h;obtain⟨k1,k2⟩:=k;cases(show c=c' from k1);exact .rows (ir h2 k2);cases h;cases h;exact .rows (ir h k)
variable {P:Program} {ty:fo} {tt:TypeId->cy} {T:iO} {ι ι' w:kB} {S S':aj} {te lG:cn} {env:cj} {tS gZ:cp} {aD:bR} {call:aY} {yf:di} {o:Oper} {aB nT:Nat} {B:cx} {r:TR} {ops:Array Oper} {L:Nat} {fn:FuncId} {iA:Bool}
theorem Oc{v:TV}{c:Prop}(h:Dq te o=some (v,c))(hc:c):bJ P ty tt te tS o=some (v,True):=by
 unfold Dq at h;split at h;rename_i t x y _ ho;split at h;rename_i a b h1 h2;cases h;have:gM P (do eqGuard .add t x y (.int .i64 a) (.int .i64 b);binOp .add t (.int .i64 a) (.int .i64 b))=some (.val (.int .i64 (IntKind.i64.wrap (a+b)))):=rfl;simp only[bJ,ho,h1,h2,cF,gP,this,wz,az,Da hc.1 hc.2];cases h;rename_i t x y _ ho;split at h;rename_i a b h1 h2;cases h;have:gM P (do eqGuard .sub t x y (.int .i64 a) (.int .i64 b);binOp .sub t (.int .i64 a) (.int .i64 b))=some (.val (.int .i64 (IntKind.i64.wrap (a-b)))):=rfl;simp only[bJ,ho,h1,h2,cF,gP,this,wz,az,Da hc.1 hc.2];cases h;rename_i t x y _ ho;split at h;rename_i a b h1 h2;cases h;have:gM P (do eqGuard .mul t x y (.int .i64 a) (.int .i64 b);binOp .mul t (.int .i64 a) (.int .i64 b))=some (.val (.int .i64 (IntKind.i64.wrap (a*b)))):=rfl;simp only[bJ,ho,h1,h2,cF,gP,this,wz,az,Da hc.1 hc.2];cases h;rename_i t x ho;split at h;rename_i a h1;cases h;have:gM P (Op.unary .neg (.int .i64 a))=some (.val (.int .i64 (IntKind.i64.wrap (-a)))):=by rw[<-Int.zero_sub];rfl
 simp only[bJ,ho,h1,cF,gP,this,wz,az,Da hc.1 hc.2];cases h;rename_i t x y _ ho;split at h;rename_i a b h1 h2;cases h;have:gM P (do eqGuard .and t x y (.int .i64 a) (.int .i64 b);binOp .and t (.int .i64 a) (.int .i64 b))=some (.val (.int .i64 (aeT a b))):=by cases a<;>rfl
 simp only[bJ,ho,h1,h2,cF,gP,this,wz,az];cases h;cases h
theorem aaO{t:TypeId}{xs ys:Array Value}{b:Bool}(ht:P.underlying t=some (.struct (P.fieldsOf t)))(hp:P.stoodInHeld t=false)(hm:P.eqGuardType P.depth t=false)(hf:cC P (Op.eqFields 9999 xs ys (P.fieldsOf t).toList)=some b)(x y:Operand):
  gM P (do eqGuard .eql t x y (.agg xs) (.agg ys);binOp .eql t (.agg xs) (.agg ys))=some (.val (.bool b)):=by
 have h1:cC P (eqGuard .eql t x y (.agg xs) (.agg ys))=some ():=by simp only[eqGuard];simp only[fN,aJ,if_false,ek,mL,cF,hm,CH,if_true];rfl
 have h2:cC P (binOp .eql t (.agg xs) (.agg ys))=some (.bool b):=by simp only[binOp,ek,Op.equal,Op.maxDepth,sr 9999 t xs ys ht hp,hf,cF];rfl
 rw[gM,ek,h1,cF,h2];rfl
theorem P5{xs ys:Array Value}{fs:List Field}{b:Bool}(h:acL P xs ys fs=some b):cC P (Op.eqFields 9999 xs ys fs)=some b:=D7 (λ_ _ _ _ h=>VD U h) h
theorem XO{b:Bool}(h:Ui P te o=some b):bJ P ty tt te tS o=some (.val (.bool b),True):=by unfold Ui at h;split at h;rename_i t x y _ ho;split at h;rename_i xs ys h1 h2;split at h;rename_i fs h3 h4 h5;simp only[af]at h;obtain⟨r,h6,rfl⟩:=h;have e:=aaN (P:=P) (si h3) h4 h5 (b:=r) (by simp only[Program.fieldsOf,h3];exact P5 h6) x y;simp only[bJ,ho,h1,h2,e,wz,az];cases h;cases h;rename_i t x y _ ho;split at h;rename_i xs ys h1 h2;split at h;rename_i fs h3 h4 h5;have e:=aaO (P:=P) (si h3) h4 h5 (b:=b) (by simp only[Program.fieldsOf,h3];exact P5 h) x y;simp only[bJ,ho,h1,h2,e,wz,az];cases h;cases h;cases h
end Go.Tv
namespace Go.Tv
open Go Go.Di Go.Proofs
variable {P:Program} {ty:fo} {tt:TypeId->cy} {T:iO} {ι ι' w:kB} {S S':aj} {te lG:cn} {env:cj} {tS gZ:cp} {aD:bR} {call:aY} {yf:di} {o:Oper} {aB nT:Nat} {B:cx} {r:TR} {ops:Array Oper} {L:Nat} {fn:FuncId} {iA:Bool} {fs:cX}
theorem Oi{md:Nat}(h:md<=2):md=0\/md=1\/md=2:=U
theorem Xj{α β:Type}{x:Option α}{f:α->β}{q:β×Prop}(h:x.map (λa=>(f a,True))=some q):q.2:=by simp only[af]at h;obtain⟨_,_,rfl⟩:=h;trivial
theorem KE{q:TV×Prop}(hc:zZ o=false)(h:bJ P ty tt te tS o=some q):q.2:=by
 unfold zZ at hc;unfold bJ at h;cases ho:o.op;all_goals simp only[ho]at hc h
 all_goals try(cases hc;done)
 all_goals repeat' (split at h)
 all_goals first
  |(cases h;done)
  |(cases h;trivial)
  |exact Xj h
  |(simp only[af]at h;obtain⟨_,_,rfl⟩:=h;trivial)
theorem Xf{q:TR}(hc:zZ o=false)(h:stepT P ty tt te tS o nT=some q):q.c:=by
 have hp:∀{q:TR},((bJ P ty tt te tS o).map λr=>(⟨r.1,te,tS,ku te o,r.2⟩:TR))=some q->q.c:=by intro q h;simp only[af]at h;obtain⟨a,h1,rfl⟩:=h;exact KE hc h1
 unfold stepT at h;split at h
 grind
 grind
 split at h;split at h;split at h;simp only[af]at h;obtain⟨_,_,rfl⟩:=h;trivial;cases h;cases h;cases h;rename_i ho;simp only[zZ,ho]at hc;cases hc;exact hp h
def Nb(o:Oper):Prop:=(∃op t x y u,o.op=.binOp op t x y u)\/∃op t x,o.op=.unOp op t x
theorem y6{v:TV}(hb:Nb o)(h:bJ P ty tt te tS o=some (v,True)):stepT P ty tt te tS o nT=some ⟨v,te,tS,[],True⟩:=by rcases hb with ⟨op,t,x,y,u,ho⟩|⟨op,t,x,ho⟩<;>simp only[stepT,ho,h,az,ku]
theorem SK{v:TV}{c:Prop}(h:Dq te o=some (v,c)):Nb o:=by
 unfold Dq at h;split at h;rename_i ho;exact .inl ⟨_,_,_,_,_,ho⟩
 rename_i ho;exact .inl ⟨_,_,_,_,_,ho⟩
 rename_i ho;exact .inl ⟨_,_,_,_,_,ho⟩
 rename_i ho;exact .inr ⟨_,_,_,ho⟩
 rename_i ho;exact .inl ⟨_,_,_,_,_,ho⟩
 cases h
theorem aaP{b:Bool}(h:Ui P te o=some b):Nb o:=by
 unfold Ui at h;split at h;rename_i ho;exact .inl ⟨_,_,_,_,_,ho⟩
 rename_i ho;exact .inl ⟨_,_,_,_,_,ho⟩
 cases h
theorem aeb(hb:Nb o):mO o=false:=by rcases hb with ⟨op,t,x,y,u,ho⟩|⟨op,t,x,ho⟩<;>simp only[mO,ho]
theorem K9{g:FuncId}{targs:cn}(h:OK tt te o=some (g,targs)):∃f args argTypes fs cs xs,o.op=.call {callee:=.value f,args,argTypes}/\fe te f=some (.fn g fs cs)/\kP te args.toList=some xs/\(fs++xs++cs).all dY=true/\bK (fJ tt fs argTypes) (fs++xs++cs)=targs:=by
 unfold OK at h;split at h
 grind
 cases h
theorem RF{g:FuncId}{kp:Nat}{targs ts:cn}(h:MN tt te tS o=some (g,kp,targs,ts)):∃f args argTypes fs cs xs,o.op=.call {callee:=.value f,args,argTypes}/\fe te f=some (.fn g fs cs)/\kP te args.toList=some xs/\xV kp (fJ tt fs argTypes) (fs++xs++cs)=some targs/\(fs++xs++cs).any isRef=true/\tS[kp]? =some (.cells ts)/\eL ts=[]:=by
 unfold MN at h;split at h
 grind
 cases h
theorem RG{g:FuncId}{kp:Nat}{targs ts:cn}(h:MO tt te tS o=some (g,kp,targs,ts)):∃f args argTypes fs cs xs off rest,o.op=.call {callee:=.value f,args,argTypes}/\fe te f=some (.fn g fs cs)/\kP te args.toList=some xs/\fs++xs++cs=.ptr kp off::rest/\rest.all dY=true/\tS[kp]? =some (.cells ts)/\ts.all jZ=true/\targs=.ptr 0 off::bK (fJ tt fs argTypes).tail rest:=by
 unfold MO at h;split at h
 grind
 cases h
theorem K2{md:Nat}{v:TV}{cs:cn}{K:Prop}(h:JL md v cs K):(md=2->Bf v=true/\cs.all jZ=true)/\K:=by
 unfold JL at h;split at h
 grind
 grind
def uX(call:aY)(g:FuncId)(A:cn)(tS:cp)(K:TV->cp->Prop):Prop:=
 ∀ι bT S,bL ι A tS bT S->∃d S' ι' v bI,call g bT S=some (d,S')/\bL ι' [v] bI [d] S'/\nM (cZ 0 tS) bI/\Fr (cZ 0 tS) ι S ι' S'/\Nn S.length S S'/\K v bI
theorem XI{f:Operand}{args:Array Operand}{argTypes:Array TypeId}{g:FuncId}{fs cs xs:cn}{K:TV->cp->Prop}(hop:o.op=.call {callee:=.value f,args,argTypes})(hf:fe te f=some (.fn g fs cs))(ha:kP te args.toList=some xs)(hr:(fs++xs++cs).any isRef=true\/ty.h o=1)
  (hc:uX call g (fs++xs++cs) tS K):Does P ty aD call yf B o nT te tS false λv bO bI _=>bO=fG tS te/\K v bI:=by
 intro ι w env S aB hR hB hw hT CN hS;obtain⟨wm,iq,FC,k1,k2,k3⟩:=gY hR.env hf ha;obtain⟨d,S',ι',v,bI,m1,m2,m3,m4,m5,m6⟩:=hc ι _ S ⟨k3,hR.cells,hR.own,hR.qc,hR.inj,hR.mp⟩;obtain⟨w',SR⟩:=Mz m2;obtain⟨_,_,e,m7,-⟩:=ax m2.env;cases e;have T8:∀k,k∈B->k∈cZ 0 tS:=λk hk=>by obtain⟨l,h1⟩:=hB k hk;exact qK h1
 refine⟨d,S',ι',w',v,fG tS te,bI,⟨none,true⟩,⟨none,true⟩,λ_=>?_,λe=>ar,⟨λe=>e,λl hl=>aE⟩,λl m hl=>aE,⟨jA (λk hk=>?_) _ _ hR.env,m2.cells,m2.own,m2.qc,m2.inj,m2.mp⟩,m7,SR,λe=>ar,⟨m4.rest,m4.ours,λk hk=>m4.base k (T8 k hk)⟩,λk hk=>m3 k (T8 k hk),⟨m5.1,λj hj dN=>m5.2 j (by have:=(aI.1 dN).1;omega) dN⟩,rfl,m6⟩;rcases hr with hr|hr;have:=mb hr k3;simp only[ah,hop,k1,k2,vO,this,aJ,if_false,m1];split<;>rfl;simp only[ah,hop,k1,k2,hr,m1];unfold js at hk;split at hk;rename_i c hc;exact m4.base k (KY hc)
 cases hk
theorem aax{md:Nat}{A:cn}{fn:Func}{j:List (Nat×LA)}(h:aci ty T md te o=some (A,fn,j)):md=0/\∃f args argTypes g fs cs xs,o.op=.call {callee:=.value f,args,argTypes}/\fe te f=some (.fn g fs cs)/\kP te args.toList=some xs/\((fs++xs++cs).any isRef=true\/ty.h o=1)/\A=fs++xs++cs/\T.X g=some (fn,j):=by
 unfold aci at h;split at h;split at h;rename_i g A' h1;split at h;rename_i sW j' h2;cases h;unfold aeu at h1;split at h1
 grind
 cases h1;cases h;cases h;cases h
theorem qJ{b:Bool}{c:Prop}(h:ace ty te o=some (b,c))(hc:c):(∃op t x y u,o.op=.binOp op t x y u)/\∀{env:cj},cz ι S te env->∀aB,ah P ty aD call yf (iN env) o S aB=some (.val (.bool b),S):=by
 unfold ace at h;split at h;rename_i t x y _ ho;refine⟨⟨_,_,_,_,_,ho⟩,λ{env} hE aB=>?_⟩;split at h;rename_i h1 h2 h3;cases h;obtain⟨d1,k1,k2⟩:=bt hE h2;obtain⟨d2,k3,k4⟩:=bt hE h3;cases d1<;>simp only[RT]at k2;cases d2<;>simp only[RT]at k4;obtain⟨rfl,rfl,rfl⟩:=k4;rename_i rows tok f;have hr:rows.isEmpty=false:=by
  have:=lz k2.1;cases rows with
  |nil=>exact absurd (eP (by simpa using this.symm)) hc
  |cons=>rfl
 simp only[ah,ho,valOf,k1,k3,cF,AY,Df,h1,Mq,hr,aJ,if_false,az];rename_i h1 h2 h3;cases h;obtain⟨d1,k1,k2⟩:=bt hE h2;obtain⟨d2,k3,k4⟩:=bt hE h3;cases d1<;>simp only[RT]at k2;cases d2<;>simp only[RT]at k4;obtain⟨rfl,rfl,rfl⟩:=k4;obtain⟨rfl,rfl,rfl⟩:=k2;simp only[ah,ho,valOf,k1,k3,cF,AY,Df,h1,Mq,List.isEmpty_nil,if_true,az];cases h;cases h
theorem K3{b:Value}(hb:∃op t x y u,o.op=.binOp op t x y u)(h:∀{ι:kB}{S:aj}{env:cj},cz ι S te env->∀aB,ah P ty aD call yf (iN env) o S aB=some (.val b,S))(dr:Bool):Does P ty aD call yf B o nT te tS dr λv bO bI ft=>v=.val b/\bO=te/\bI=tS/\ft=⟨some [],false⟩:=by intro ι w env S aB hR hB hw hT hn hS;obtain⟨op,t,x,y,u,ho⟩:=hb;refine⟨.val b,S,ι,w,.val b,te,tS,⟨some [],false⟩,⟨some [],false⟩,λ_=>h hR.env aB,λ_=>?_,⟨id,λl hl=>⟨[],rfl,λj hj=>(by cases hj)⟩⟩,λl m _ hm j hj=>(by cases hm;cases hj),hR,by simp only[RT],hw,λ_ _ _=>rfl,Fr.refl _ _ _,hB,fM _ _,rfl,rfl,rfl,rfl⟩;have:=h hR.env aB;simp only[aH,ho];rw[this];rfl
theorem ac5{k:Nat}{b:Value}{Q:cn->Prop}(ho:ops[k]? =some o)(hw:dI ops te o=some true)(hb:∃op t x y u,o.op=.binOp op t x y u)(h:∀{ι:kB}{S:aj}{env:cj},cz ι S te env->∀aB,ah P ty aD call yf (iN env) o S aB=some (.val b,S))(hq:WQ P ty aD call yf ops tS (k+1) (jI te o.dst (.val b)) Q):WQ P ty aD call yf ops tS k te Q:=by
 intro ι env S hR;obtain⟨aK,bO,n1,n2,n3⟩:=hq ι (jN env o.dst (.val b)) S (nO hR (by simp only[RT]) _);refine⟨aK,bO,?_,n2,n3⟩;rw[nS ho];have hs:=h hR.env S.length;obtain⟨op,t,x,y,u,hop⟩:=hb;have hq:cV P ty aD call yf (iN env) o S=some (.val b):=by simp only[cV,hop];rw[hs];rfl
 simp only[qd,gW hR.env hw,if_true,hq,n1]
def wu(P:Program)(ty:fo)(aD:bR)(call:aY)(yf:di)(B:cx)(ops:Array Oper)(Q:cn->cp->Prop)(md:Nat)(mm:cp)(k:Nat)(te:cn)(tS:cp)(fs:cX):Prop:=
 match md with
 |0=>WL P ty aD call yf B ops k te tS Q
 |1=>tS=mm->WQ P ty aD call yf ops mm k te λte=>Q te mm
 |_=>WD P ty aD call yf B ops k te tS fs Q
theorem Ie{Q:cn->cp->Prop}{md k:Nat}{mm:cp}(pz:md<=2)(ho:ops[k]? =some o)(hw:dI ops te o=some false){K:KO}(hK:∀te tS fs,K te tS fs->wu P ty aD call yf B ops Q md mm (k+1) te tS fs)(h:Ow o te tS fs K):wu P ty aD call yf B ops Q md mm k te tS fs:=by have h1:=hK _ _ _ (ey (K:=λte=>K te tS (fs++[fT])) h);rcases Oi pz with rfl|rfl|rfl;exact Zy ho hw h1;exactλe=>Zx ho hw (h1 e);exact ZE ho hw h1
variable {inl:Inl}
structure vS (P:Program) (ty:fo) (call:aY) (yf:di) (T:iO) (inl:Inl):Prop where
 c:∀g fn j A tS (K:TV->cp->Prop),T.X g=some (fn,j)->inl.c fn j A tS K->uX call g A tS K
 y:∀k rm zk xs tS (K:cp->Prop),inl.y k rm zk xs tS K->∃ps nL body Hv xU Yi,BU rm=some (ps,nL,body)/\yf=tJ P ty Hv xU Yi LL/\xs.length=ps.length/\(eL (nD zk (ps.zip xs))++nE tS).contains k=false/\WT P ty Hv xU Yi (ny k tS) LL rm true nL (nD zk (ps.zip xs)) (tS.set k .none) λe lG gZ=>e=.normal/\WT P ty Hv xU Yi (ny k tS) LL rm true body lG gZ λe _ jk=>e=.normal/\jk[k]? =some .none/\K jk
theorem Zp{md k:Nat}{rm:FuncId}{zk xs:cn}(h:abV md te tS o=some (k,rm,zk,xs)):md≠1/\∃f args argTypes,o.op=.call {callee:=.value f,args,argTypes}/\fe te f=some (.nj k rm zk)/\kP te args.toList=some xs/\tS[k]? =some .loop:=by
 unfold abV at h;split at h
 grind
 cases h
def My(ty:fo)(md:Nat)(o:Oper)(sV:cn)(sO:cp)(te:cn)(tS:cp):Prop:=
 match md with
 |0=>Ml ty sV sO o=some (te,tS)
 |_=>sV=te/\sO=tS
theorem KN(hT:pJ T aD call){Q:cn->cp->Prop}{md n0 k:Nat}{mm sO:cp}{sV:cn}(pz:md<=2)(ho:ops[k]? =some o)(hw:dI ops sV o=some true)(mN:My ty md o sV sO te tS){K:KO}(hK:∀te tS fs,K te tS fs->wu P ty aD call yf B ops Q md mm (k+1) te tS fs)
  (hn:zA tS (nv md n0 k tS)=true) (hh:md=0\/ty.h o≠1) (h:HQ tt T md o te tS fs K):wu P ty aD call yf B ops Q md mm k sV sO fs:=by
 unfold HQ at h;split at h;rename_i g L targs tP hc;obtain⟨f,args,argTypes,fs1,cs1,xs,c1,c2,c3,c4,c5,c6,c7,c8,c9,c10⟩:=Sf (tt:=tt) hc;split at h;rename_i p s hm hs;obtain⟨hp,h⟩:=iw h;have hsp:=hT.M _ _ _ _ _ hs hp;have all:∀v t,s.holds v (t.map .agg)->∃tB,Hs L t=some tB/\wu P ty aD call yf B ops Q md mm (k+1) (jI te o.dst v) (xE L tB tS) (fs++[FY md L]):=λv t hv=>by
  have h1:=G2 (R:=λv cs=>acR L cs λtB=>fV v λv=>fQ te o.dst v λte=>bN (xE L tB tS) λtS=>K te tS (fs++[FY md L])) h hv;unfold acR at h1;rw[F4]at h1;simp only at h1;split at h1;rename_i tB hb;exact⟨tB,hb,hK _ _ _ (cv _ (K:=λtS=>K _ tS (fs++[FY md L])) (ey (K:=λte=>bN (xE L tB tS) λtS=>K te tS (fs++[FY md L])) (gb v (K:=λv=>fQ te o.dst v λte=>bN (xE L tB tS) λtS=>K te tS (fs++[FY md L])) h1)))⟩
  grind
 rcases Oi pz with rfl|rfl|rfl;refine ko ho hw mN (N9 c1 c2 c3 c4 c7 c8 c9 hsp λv t hv=>(all v t hv).imp λ_ h=>h.1) ?_;rintro v bO bI ft ⟨t,tB,hv,hb,rfl,rfl,-⟩;obtain⟨tB',e1,e2⟩:=all v t hv;rw[hb]at e1;cases e1;exact e2;cases hm;obtain⟨rfl,rfl⟩:=mN;obtain⟨d1,d2,d3⟩:=c10 ae;refine sE ho hw hn (LR (tt:=tt) c1 (hh.resolve_left ae) c2 c3 c4 c5 c6 d1 d2 d3 c7 c8 c9 hsp λv t hv=>(all v t hv).imp λ_ h=>h.1) ?_;rintro v bO bI ft ⟨t,tB,hv,hb,rfl,rfl,rfl⟩;obtain⟨tB',e1,e2⟩:=all v t hv;rw[hb]at e1;cases e1;exact e2
 grind
 grind
theorem Ku(hT:pJ T aD call){Q:cn->cp->Prop}{md n0 k:Nat}{mm sO:cp}{sV:cn}(pz:md<=2)(ho:ops[k]? =some o)(hw:dI ops sV o=some true)(mN:My ty md o sV sO te tS){K:KO}(hK:∀te tS fs,K te tS fs->wu P ty aD call yf B ops Q md mm (k+1) te tS fs)
  (hn:zA tS (nv md n0 k tS)=true) (hh:md=0\/ty.h o≠1) (h:HN tt T md o te tS fs K):wu P ty aD call yf B ops Q md mm k sV sO fs:=by
 unfold HN at h;split at h;rename_i g kp targs ts hc;split at h;rename_i p s hs;obtain⟨hp,h⟩:=iw h;have hsp:=hT.C _ _ _ _ _ hs hp;have all:∀v cs,s.holds v cs->JL md v cs (fV v λv=>fQ te o.dst v λte=>cL cs λcs=>bN (tS.set kp (.cells cs)) λtS=>K te tS (fs++[C6 md kp])):=λv cs hv=>
  G2 (R:=λv cs=>JL md v cs (fV v λv=>fQ te o.dst v λte=>cL cs λcs=>bN (tS.set kp (.cells cs)) λtS=>K te tS (fs++[C6 md kp]))) h hv
 have fin:∀v cs,s.holds v cs->wu P ty aD call yf B ops Q md mm (k+1) (jI te o.dst v) (tS.set kp (.cells cs)) (fs++[C6 md kp]):=λv cs hv=>by have h1:=ey (gb v (K:=λv=>fQ te o.dst v λte=>cL cs λcs=>bN (tS.set kp (.cells cs)) λtS=>K te tS (fs++[C6 md kp])) (K2 (all v cs hv)).2);exact hK _ _ _ (cv _ (K:=λtS=>K _ tS (fs++[C6 md kp])) (ct cs (K:=λcs=>bN (tS.set kp (.cells cs)) λtS=>K _ tS (fs++[C6 md kp])) h1))
 rcases Oi pz with rfl|rfl|rfl;obtain⟨f,args,argTypes,fs1,cs1,xs,c1,c2,c3,c4,c5,c6,c7⟩:=RF (tt:=tt) hc;refine ko ho hw mN (N6 c1 c2 c3 c4 c5 c6 c7 hsp) ?_;rintro v bO bI ft ⟨zw,hv,rfl,rfl,-⟩;exact fin v zw hv;cases hc;obtain⟨f,args,argTypes,fs1,cs1,xs,off,rest,c1,c2,c3,c4,c5,c6,c7,rfl⟩:=RG (tt:=tt) hc;obtain⟨rfl,rfl⟩:=mN;refine sE ho hw hn (LQ (tt:=tt) c1 (hh.resolve_left ae) c2 c3 c4 c5 c6 c7 hsp λv cs hv=>(K2 (all v cs hv)).1 rfl) ?_;rintro v bO bI ft ⟨zw,hv,rfl,rfl,rfl⟩;exact fin v zw hv;exact KN hT pz ho hw mN hK hn hh h;exact KN hT pz ho hw mN hK hn hh h
theorem aaR(hT:pJ T aD call)(hI:vS P ty call yf T inl){Q:cn->cp->Prop}{md n0 k:Nat}{mm sO:cp}{sV:cn}(pz:md<=2)(ho:ops[k]? =some o)(hw:dI ops sV o=some true)(mN:My ty md o sV sO te tS){K:KO}(hK:∀te tS fs,K te tS fs->wu P ty aD call yf B ops Q md mm (k+1) te tS fs)
  (hn:zA tS (nv md n0 k tS)=true) (h:UU ty tt T inl md (nv md n0 k tS) o te tS fs K):wu P ty aD call yf B ops Q md mm k sV sO fs:=by
 unfold UU at h;split at h;rename_i k' rm zk xs hx;obtain⟨hm,f,args,argTypes,c1,c2,c3,c4⟩:=Zp hx;obtain⟨ps,nL,body,Hv,xU,Yi,hrf,hyf,hlen,hr,SR⟩:=hI.y _ _ _ _ _ _ h;have hd:∀nT dr,Does P ty aD call yf B o nT te tS dr λv bO bI ft=>∃jk,abW o te tS fs K k' jk/\v=.val (.bool true)/\bO=te.map (tw tS k')/\bI=oA k' 0 tS (jk.set k' .loop)/\ft=⟨none,true⟩:=λnT dr=>N4 c1 hyf c2 hrf c3 c4 hlen hr SR λjk hk=>by obtain⟨h0,-⟩:=iE hk;simp only[aC,aR]at h0;exact h0
 have fin:∀jk,abW o te tS fs K k' jk->wu P ty aD call yf B ops Q md mm (k+1) (jI (te.map (tw tS k')) o.dst (.val (.bool true))) (oA k' 0 tS (jk.set k' .loop)) (fs++[⟨none,true⟩]):=λjk hk=>by obtain⟨-,hk⟩:=iE hk;exact hK _ _ _ (cv _ (K:=λtS=>K _ tS (fs++[⟨none,true⟩])) (ey (K:=λte=>bN (oA k' 0 tS (jk.set k' .loop)) λtS=>K te tS (fs++[⟨none,true⟩])) (ct _ (K:=λte=>fQ te o.dst (.val (.bool true)) λte=>bN (oA k' 0 tS (jk.set k' .loop)) λtS=>K te tS (fs++[⟨none,true⟩])) hk)))
 rcases Oi pz with rfl|rfl|rfl;refine ko ho hw mN (hd _ false) ?_;rintro v bO bI ft ⟨jk,hv,rfl,rfl,rfl,rfl⟩;exact fin jk hv
 grind
 obtain⟨rfl,rfl⟩:=mN;refine sE ho hw hn (hd _ true) ?_;rintro v bO bI ft ⟨jk,hv,rfl,rfl,rfl,rfl⟩;exact fin jk hv;split at h;rename_i A fn j hx;obtain⟨rfl,f,args,argTypes,g,fs1,cs1,xs,c1,c2,c3,c4,rfl,c5⟩:=aax hx;refine ko ho hw mN (XI c1 c2 c3 c4 (hI.c g fn j _ tS _ c5 h)) ?_;rintro v bO bI ft ⟨rfl,hv⟩;exact hK _ _ _ (ey (K:=λte=>K te bI fs) (ct (fG tS te) (K:=λte=>fQ te o.dst v λte=>K te bI fs) (gb v (K:=λv=>cL (fG tS te) λte=>fQ te o.dst v λte=>K te bI fs) hv)));split at h;rename_i hh
 replace hh:ty.h o=1:=by simpa using hh
 split at h;exact Ku hT pz ho hw mN hK hn (.inl rfl) h;rename_i g targs hc _ _;obtain⟨f,args,argTypes,fs1,cs1,xs,c1,c2,c3,c4,c5⟩:=K9 hc;split at h;rename_i p e s hs;obtain⟨hp,h⟩:=iw h;obtain⟨rfl,rfl⟩:=mN;refine sE ho hw hn (N5 c1 hh c2 c3 c4 c5 (hT.O _ _ _ _ _ hs hp)) ?_;rintro v bO bI ft ⟨t,Jk,hv,rfl,rfl,rfl,rfl⟩;have h1:=ES (R:=λv=>Uw e (nv 2 n0 k sO) v λv b=>fV v λv=>fQ bO o.dst v λte=>bN (nu sO (nv 2 n0 k sO) b) λtS=>K te tS (fs++[⟨some [nv 2 n0 k sO],true⟩])) h hv;simp only[Uw]at h1;exact hK _ _ _ (cv _ (K:=λtS=>K _ tS (fs++[⟨some [nv 2 n0 k sO],true⟩])) (ey (gb _ (K:=λv=>fQ bO o.dst v λte=>bN (nu sO (nv 2 n0 k sO) (.own e t.size)) λtS=>K te tS (fs++[⟨some [nv 2 n0 k sO],true⟩])) h1)))
 grind
 grind
 rename_i hh
 replace hh:ty.h o≠1:=by simpa using hh
 split at h;rename_i g targs hc;obtain⟨f,args,argTypes,fs1,cs1,xs,c1,c2,c3,c4,c5⟩:=K9 hc;split at h;rename_i p s hm hs;have hm:md=0:=by simpa using hm
 subst hm;obtain⟨hp,h⟩:=iw h;refine ko ho hw mN (N8 c1 hh c2 c3 c4 c5 (hT.N _ _ _ _ hs hp)) ?_;rintro v bO bI ft ⟨ts,hq,rfl,rfl,rfl⟩;have e:nu tS tS.length (.cells ts)=tS++[.cells ts]:=by unfold nu;rw[if_neg (Nat.lt_irrefl _)]
 rw[e];exact hK _ _ _ (ey (K:=λte=>K te (tS++[.cells ts]) fs) (Od (R:=λcs=>fQ bO o.dst (.ptr tS.length 0) λte=>K te (tS++[.cells cs]) fs) h hq));split at h;rename_i p s hs;obtain⟨hp,h⟩:=iw h;have hsp:=hT.I _ _ _ _ hs hp;have fin:∀v,s.tK v->wu P ty aD call yf B ops Q md mm (k+1) (jI te o.dst v) tS (fs++[fT]):=λv hv=>
  hK _ _ _ (ey (K:=λte=>K te tS (fs++[fT])) (gb v (K:=λv=>fQ te o.dst v λte=>K te tS (fs++[fT])) (ES (R:=λv=>fV v λv=>fQ te o.dst v λte=>K te tS (fs++[fT])) h hv)))
 rcases Oi pz with rfl|rfl|rfl
 skip
 refine ko ho hw mN (ER c1 hh c2 c3 c4 c5 hsp false) ?_;rintro v bO bI ft ⟨hv,rfl,rfl,-⟩;exact fin v hv;obtain⟨rfl,rfl⟩:=mN;exactλe=>VX ho hw c1 hh c2 c3 c4 c5 hsp λv hv=>fin v hv e
 skip
 obtain⟨rfl,rfl⟩:=mN;refine sE ho hw hn (ER c1 hh c2 c3 c4 c5 hsp true) ?_;rintro v bO bI ft ⟨hv,rfl,rfl,rfl⟩;exact fin v hv
 grind
 exact Ku hT pz ho hw mN hK hn (.inr hh) h
theorem Kp{Q:cn->cp->Prop}{md n0 k:Nat}{mm sO:cp}{sV:cn}(pz:md<=2)(ho:ops[k]? =some o)(hw:dI ops sV o=some true)(mN:My ty md o sV sO te tS){K:KO}(hK:∀te tS fs,K te tS fs->wu P ty aD call yf B ops Q md mm (k+1) te tS fs)
  (hn:zA tS (nv md n0 k tS)=true) {v:TV} (hb:Nb o) (hp:bJ P ty tt te tS o=some (v,True)) (h:fQ te o.dst v λte=>K te tS (fs++[fT])):wu P ty aD call yf B ops Q md mm k sV sO fs:=by
 have h1:=hK _ _ _ (ey (K:=λte=>K te tS (fs++[fT])) h);rcases Oi pz with rfl|rfl|rfl
 skip
 refine ko ho hw mN (kI (y6 hb hp) trivial false) ?_;rintro v' bO bI ft ⟨rfl,rfl,rfl,-⟩;exact h1;obtain⟨rfl,rfl⟩:=mN;exactλe=>H9 ho hw (e▸hp) trivial (h1 e)
 skip
 obtain⟨rfl,rfl⟩:=mN;refine sE ho hw hn (kI (y6 hb hp) trivial true) ?_;rintro v' bO bI ft ⟨rfl,rfl,rfl,rfl⟩;rw[aeb hb];exact h1
theorem Vi(hT:pJ T aD call)(hI:vS P ty call yf T inl){Q:cn->cp->Prop}{md n0 k:Nat}{mm sO:cp}{sV:cn}(pz:md<=2)(ho:ops[k]? =some o)(hw:dI ops sV o=some true)(mN:My ty md o sV sO te tS){K:KO}(hK:∀te tS fs,K te tS fs->wu P ty aD call yf B ops Q md mm (k+1) te tS fs)
  (h:YW P ty tt T inl md n0 k o te tS fs K):wu P ty aD call yf B ops Q md mm k sV sO fs:=by
 unfold YW at h;split at h
 grind
 rename_i hn;split at h;exact aaR hT hI pz ho hw mN hK hn h;split at h;rename_i v bO bI f c hm;obtain⟨hc,h⟩:=h;have h1:=ey (ct bO (K:=λte=>fQ te o.dst v λte=>bN bI λtS=>K te tS (fs++[f])) (gb v (K:=λv=>cL bO λte=>fQ te o.dst v λte=>bN bI λtS=>K te tS (fs++[f])) h));have h1:=hK _ _ _ (cv bI (K:=λtS=>K _ tS (fs++[f])) h1);unfold abm at hm;split at hm;rename_i v2 g c2 hr;cases hm;rcases Oi pz with rfl|rfl|rfl;refine ko ho hw mN (EP hr hc false) ?_;rintro v' Tn jk ft ⟨rfl,rfl,rfl,rfl⟩;exact h1;obtain⟨rfl,rfl⟩:=mN;exactλe=>VW ho hw (e▸hr) hc (h1 e);obtain⟨rfl,rfl⟩:=mN;refine sE ho hw hn (EP hr hc true) ?_;rintro v' Tn jk ft ⟨rfl,rfl,rfl,rfl⟩;exact h1;split at hm;cases hm;rename_i h91;split at hm;rename_i g jk hs;cases hm;rcases Oi pz with rfl|rfl|rfl;refine ko ho hw mN (EO hs false) ?_;rintro v' Tn jk ft ⟨rfl,rfl,rfl,rfl⟩;exact h1
 grind
 obtain⟨rfl,rfl⟩:=mN;refine sE ho hw hn (EO hs true) ?_;rintro v' Tn jk ft ⟨rfl,rfl,rfl,rfl⟩;exact h1;split at hm;rename_i h90;subst h90;simp only[af,ay]at hm;obtain⟨⟨v2,Tn,jk,c2⟩,hs,rfl,rfl,rfl,rfl,rfl⟩:=hm;refine ko ho hw mN (N7 hs hc) ?_;rintro v' te3 tS3 ft ⟨rfl,rfl,rfl⟩;exact h1;cases hm;split at h;rename_i v bI c hm;have h0:md=0:=by unfold mapM at hm;split at hm;rfl;cases hm
 subst h0;refine ko ho hw mN (XH hm h.1) ?_;rintro v' bO jk ft ⟨rfl,rfl,rfl⟩;have h1:=ey (gb v' (K:=λv=>fQ bO o.dst v λte=>bN jk λtS=>K te tS (fs++[⟨none,true⟩])) h.2);exact hK _ _ _ (cv jk (K:=λtS=>K _ tS (fs++[⟨none,true⟩])) h1);split at h;rename_i v c ha;exact Kp pz ho hw mN hK hn (SK ha) (Oc (tt:=tt) ha h.1) h.2;split at h;rename_i b _ hb;exact Kp pz ho hw mN hK hn (aaP hb) (XO (tt:=tt) hb) h;rename_i b c _ _ hb;obtain⟨hc,h⟩:=h;have h1:=hK _ _ _ (ey (K:=λte=>K te tS (fs++[fT])) h);rcases Oi pz with rfl|rfl|rfl;refine ko ho hw mN (K3 (qJ (P:=P) (aD:=aD) (call:=call) (yf:=yf) (ι:=gC) (S:=[]) hb hc).1 (λhE aB=>(qJ hb hc).2 hE aB) false) ?_;rintro v' bO bI ft ⟨rfl,rfl,rfl,-⟩;exact h1;obtain⟨rfl,rfl⟩:=mN;exactλe=>ac5 ho hw (qJ (P:=P) (aD:=aD) (call:=call) (yf:=yf) (ι:=gC) (S:=[]) hb hc).1 (λhE aB=>(qJ hb hc).2 hE aB) (h1 e);obtain⟨rfl,rfl⟩:=mN;refine sE ho hw hn (K3 (qJ (P:=P) (aD:=aD) (call:=call) (yf:=yf) (ι:=gC) (S:=[]) hb hc).1 (λhE aB=>(qJ hb hc).2 hE aB) true) ?_;rintro v' bO bI ft ⟨rfl,rfl,rfl,rfl⟩;exact h1;have key:md≠1->∀q:TR,stepT P ty tt te tS o (nv md n0 k tS)=some q->q.c->K (jI q.te o.dst q.v) q.tS (fs++[⟨some q.Fg,mO o⟩])->wu P ty aD call yf B ops Q md mm k sV sO fs:=by
  intro hm q hq hc hk;have h1:=hK _ _ _ hk;rcases Oi pz with rfl|rfl|rfl
  skip
  refine ko ho hw mN (kI hq hc false) ?_;rintro v' bO bI ft ⟨rfl,rfl,rfl,-⟩;exact h1
  grind
  skip
  obtain⟨rfl,rfl⟩:=mN;refine sE ho hw hn (kI hq hc true) ?_;rintro v' bO bI ft ⟨rfl,rfl,rfl,rfl⟩;exact h1
 split at h;split at h;rename_i q hq;have fin:∀{R:Prop},q.2->K (jI te o.dst q.1) tS (fs++[fT])->wu P ty aD call yf B ops Q 1 mm k sV sO fs:=λ{_} hc hk=>by obtain⟨h8,h9⟩:=mN;subst h8 h9;exactλe=>H9 ho hw (e▸(show bJ P ty tt sV sO o=some (q.1,q.2)from hq)) hc (hK _ _ _ hk e)
 split at h;exact fin (R:=True) h.1 (ey (K:=λte=>K te tS (fs++[fT])) (gb q.1 (K:=λv=>fQ te o.dst v λte=>K te tS (fs++[fT])) h.2));rename_i oH;exact fin (R:=True) (KE oH hq) (ey (K:=λte=>K te tS (fs++[fT])) (gb q.1 (K:=λv=>fQ te o.dst v λte=>K te tS (fs++[fT])) h))
 grind
 rename_i hm;split at h;rename_i q hq;split at h;refine key (λe=>hm e) q hq h.1 ?_;have h1:=ct q.te (gb q.v (K:=λv=>cL q.te λte=>fQ te o.dst v λte=>bN q.tS λtS=>K te tS (fs++[⟨some q.Fg,mO o⟩])) h.2);exact cv q.tS (K:=λtS=>K _ tS _) (ey h1);rename_i oH;refine key (λe=>hm e) q hq (Xf oH hq) ?_;have h1:=ey (gb q.v (K:=λv=>fQ q.te o.dst v λte=>bN q.tS λtS=>K te tS (fs++[⟨some q.Fg,mO o⟩])) h);exact cv q.tS (K:=λtS=>K _ tS _) h1
 grind
theorem Kb{n:Int}{K:Nat->Prop}:∀(c j:Nat),splitK n K c j->∃i:Nat,n=i/\K i
 |0,_,h=>h.elim
 |c+1,j,h=>by
  obtain⟨h1,h2⟩:=uY h;by_cases e:n=(j:Int)
  grind
  exact Kb c (j+1) (h2 (rN e))
theorem aee{t c:Nat}{n:Int}(h:acS ty te o=some (t,n,c)):te[t]? =some (.val (.int .i64 n)):=by
 unfold acS at h;split at h
 grind
 grind
 cases h
theorem adi{Q:cn->cp->Prop}{md n0 k:Nat}{mm sO:cp}{sV:cn}(pz:md<=2)(ho:ops[k]? =some o)(hw:dI ops sV o=some true)(mN:My ty md o sV sO te tS){K:KO}(hK:∀te tS fs,K te tS fs->wu P ty aD call yf B ops Q md mm (k+1) te tS fs)
  (hn:zA tS (nv md n0 k tS)=true) {q:acU} (hq:BS ty tt te tS o=some q) (h:YR md (nv md n0 k tS) o te tS fs K q):wu P ty aD call yf B ops Q md mm k sV sO fs:=by
 have quiet:∀{v v2:TV}{id:cx},bJ P ty tt te tS o=some (v,True)->((∃t x i,o.op=.indexAddr t x i)\/∃t a,o.op=.load t a)->ku te o=id->Tg v2 v->wu P ty aD call yf B ops Q md mm (k+1) (jI te o.dst v2) tS (fs++[⟨some id,false⟩])->wu P ty aD call yf B ops Q md mm k sV sO fs:=by intro v v2 id hp hi hr hv hb;rcases Oi pz with rfl|rfl|rfl;obtain⟨k1,k2⟩:=Ek (nT:=tS.length) hp hi;refine ko ho hw mN (CF (kI k1 trivial false) (Q':=λv bO bI ft=>v=v2/\bO=te/\bI=tS) ?_) ?_;rintro _ _ _ _ ⟨rfl,rfl,rfl,rfl⟩;exact⟨v2,_,_,⟨none,true⟩,hv,CS.refl _,TS.refl _,λ_=>rfl,λ_ hl=>by(cases hl),rfl,rfl,rfl⟩;rintro _ _ _ _ ⟨rfl,rfl,rfl⟩;exact hb;obtain⟨rfl,rfl⟩:=mN;exactλe=>H9 ho hw (e▸hp) trivial (aeY (ac7 hv _ _) (hb e));obtain⟨rfl,rfl⟩:=mN;obtain⟨k1,k2⟩:=Ek (nT:=n0+k) hp hi;refine sE ho hw hn (CF (kI k1 trivial true) (Q':=λv bO bI ft=>v=v2/\bO=sV/\bI=sO/\ft=⟨some id,false⟩) ?_) ?_;rintro _ _ _ _ ⟨rfl,rfl,rfl,rfl⟩;exact⟨v2,_,_,⟨some id,false⟩,hv,CS.refl _,TS.refl _,λe=>(by rw[k2]at e;exact e),λl hl=>⟨l,(by rw[hr];exact hl),λ_ h=>h⟩,rfl,rfl,rfl,rfl⟩;rintro _ _ _ _ ⟨rfl,rfl,rfl,rfl⟩;exact hb
 have go:∀{v:TV}{bO:cn}{bI:cp}{ft:cM},md≠1->(∀nT dr,nT=nv md n0 k tS->Does P ty aD call yf B o nT te tS dr λv' s5 s6 ft'=>v'=v/\s5=bO/\s6=bI/\ft'=ft)->wu P ty aD call yf B ops Q md mm (k+1) (jI bO o.dst v) bI (fs++[ft])->wu P ty aD call yf B ops Q md mm k sV sO fs:=by
  intro v bO bI ft hm hd hb;rcases Oi pz with rfl|rfl|rfl;refine ko ho hw mN (hd _ false rfl) ?_;rintro _ _ _ _ ⟨rfl,rfl,rfl,rfl⟩;exact hb
  grind
  obtain⟨rfl,rfl⟩:=mN;refine sE ho hw hn (hd _ true rfl) ?_;rintro _ _ _ _ ⟨rfl,rfl,rfl,rfl⟩;exact hb
 cases q with
 |ix v c=>
  obtain⟨hc,h⟩:=h;obtain⟨h1,h2⟩:=adj (P:=P) hq hc;have hr:ku te o=[]:=by obtain⟨t,x,i,e⟩:=h2;simp only[ku,e]
  exact quiet h1 (.inl h2) hr (Tg.refl _) (hK _ _ _ (ey (K:=λte=>K te tS (fs++[fT])) h))
 |ld0 id off t x=>obtain⟨hc,h⟩:=iE h;obtain⟨⟨ap,h1⟩,h2,h3⟩:=ZM (P:=P) hq (by simpa using hc);refine quiet h1 (.inr h3) h2 (λι S d hd=>?_) (hK _ _ _ (ey (v:=.sl t x .no) (K:=λte=>K te tS (fs++[⟨some [id],false⟩])) h));cases d<;>simp only[RT]at hd⊢;exact⟨hd.1,trivial⟩
 |ld id off u c l b=>
  cases b with
  |true=>obtain⟨x,g,hx,h⟩:=h;obtain⟨h1,h2,h3⟩:=U6 (P:=P) hq hx;refine quiet h1 (.inr h3) h2 (λι S d hd=>?_) (hK _ _ _ (ey (v:=.sl u x (.BM g)) (K:=λte=>K te tS (fs++[⟨some [id],false⟩])) h));cases d<;>simp only[RT,pq]at hd⊢;exact hd
  |false=>obtain⟨x,hx,h⟩:=h;obtain⟨h1,h2,h3⟩:=U6 (P:=P) hq hx;exact quiet h1 (.inr h3) h2 (Tg.refl _) (hK _ _ _ (ey (v:=.sl u x .no) (K:=λte=>K te tS (fs++[⟨some [id],false⟩])) h))
 |st id off c l u y g=>
  simp only[YR]at h;split at h
  grind
  rename_i hm;obtain⟨j,hj,hl,h⟩:=h;exact go (by simpa using hm) (λnT dr _=>aaJ hq hj hl dr) (hK _ _ _ (cv _ (K:=λtS=>K _ tS (fs++[⟨some [id],true⟩])) (ey (K:=λte=>bN (tS.set id (.cells (c::l.set j (.sl u y (.o5 g))))) λtS=>K te tS (fs++[⟨some [id],true⟩])) h)))
 |ap e s g k' l c=>
  simp only[YR]at h;split at h;rename_i lo n hm he;obtain⟨⟨h1,h2⟩,hc,h⟩:=h;have e1:(pF e s 0 tS).1=lo:=by rw[he]
  have e2:(pF e s 0 tS).2=n:=by rw[he]
  have hd:=λdr=>aaK (P:=P) (aD:=aD) (call:=call) (yf:=yf) (B:=B) (nT:=nv md n0 k tS) hq hc (by rw[e1];exact h1) (by rw[e1,e2];exact h2) dr;rw[e1,e2]at hd;exact go (by simpa using hm) (λnT dr hnT=>by subst hnT;exact hd dr) (hK _ _ _ (cv _ (K:=λbI=>K _ bI (fs++[⟨some (nv md n0 k tS::List.range' lo n),true⟩])) (ey (v:=.sl k' l (.BM g)) (K:=λte=>bN (HI tS g tS) λbI=>K te bI (fs++[⟨some (nv md n0 k tS::List.range' lo n),true⟩])) (ct _ (K:=λte=>fQ te o.dst (.sl k' l (.BM g)) λte=>bN (HI tS g tS) λbI=>K te bI (fs++[⟨some (nv md n0 k tS::List.range' lo n),true⟩])) h))))
  grind
theorem Vh(hT:pJ T aD call)(hI:vS P ty call yf T inl){Q:cn->cp->Prop}{md n0 k:Nat}{mm sO:cp}{sV:cn}(pz:md<=2)(ho:ops[k]? =some o)(hw:dI ops sV o=some true)(mN:My ty md o sV sO te tS){K:KO}(hK:∀te tS fs,K te tS fs->wu P ty aD call yf B ops Q md mm (k+1) te tS fs)
  (h:QA P ty tt T inl md n0 k o te tS fs K):wu P ty aD call yf B ops Q md mm k sV sO fs:=by
 unfold QA at h;split at h;split at h;rename_i hq _ hn;exact adi pz ho hw mN hK hn hq h
 grind
 split at h;rename_i t n c ha;obtain⟨i,rfl,hi⟩:=Kb _ _ h;have:=pM te t _ hi;rw[oP (aee ha)]at this;exact Vi hT hI pz ho hw mN hK this;exact Vi hT hI pz ho hw mN hK h
theorem Ux(hT:pJ T aD call)(hI:vS P ty call yf T inl){Q:cn->cp->Prop}{md n0 k:Nat}{mm:cp}(pz:md<=2)(ho:ops[k]? =some o)(hw:dI ops te o=some true){K:KO}(hK:∀te tS fs,K te tS fs->wu P ty aD call yf B ops Q md mm (k+1) te tS fs)
  (h:opK P ty tt T inl md n0 k o te tS fs K):wu P ty aD call yf B ops Q md mm k te tS fs:=by
 unfold opK at h;split at h;split at h;rename_i lG gZ hp;exact Vh hT hI pz ho hw hp hK (cv gZ (K:=λtS=>QA P ty tt T inl 0 n0 k o lG tS fs K) (ct lG (K:=λte=>bN gZ λtS=>QA P ty tt T inl 0 n0 k o te tS fs K) h))
 grind
 rename_i hno;refine Vh hT hI pz ho hw ?_ hK h;rcases Oi pz with rfl|rfl|rfl;show Ml ty te tS o=some (te,tS);unfold Ml;split
 grind
 rfl;exact⟨rfl,rfl⟩;exact⟨rfl,rfl⟩
theorem abI{b:Bool}(h:gdT ops te o=.no b):dI ops te o=some b:=by
 unfold gdT at h;unfold dI;split at h
 grind
 grind
theorem adY{d:Tmp}{b want:Bool}(h:gdT ops te o=.ask d b want):te[d]? =some (.val (.bool b))/\dI ops te o=some (match want with|true=>b|false=>!b):=by
 unfold gdT at h;unfold dI;split at h;cases h
 grind
theorem Dd(hT:pJ T aD call)(hI:vS P ty call yf T inl){Q:cn->cp->Prop}{md n0:Nat}{mm:cp}(pz:md<=2){K:KO}(hK:∀te tS fs,K te tS fs->wu P ty aD call yf B ops Q md mm ops.size te tS fs):
  ∀(r:List Oper)(k:Nat)(te:cn)(tS:cp)(fs:cX),ops.toList.drop k=r->pE P ty tt T inl md n0 ops r k te tS fs K->wu P ty aD call yf B ops Q md mm k te tS fs
 |[],k,te,tS,fs,hr,h=>by
  have hk:ops.size<=k:=by have:=List.drop_eq_nil_iff.1 hr;simpa using this
  have h1:=hK te tS fs h;rcases Oi pz with rfl|rfl|rfl;intro ι env S hR hB;have:=h1 ι env S hR hB;rw[jy ab]at this;rw[jy (by simpa using hk)];exact this
  intro e ι env S hR;have:=h1 e ι env S hR;rw[jy ab]at this;rw[jy (by simpa using hk)];exact this
  skip
  intro ι w env S n0 hR hB hw hn;have:=h1 ι w env S n0 hR hB hw (λj hj Jd=>U);rw[jy ab]at this;rw[jy (by simpa using hk)];obtain⟨aK,S',wm,ι',w',bO,bI,ft,e1,e2,e3,e4,e5,e6,e7,e8,e9⟩:=this;exact⟨aK,S',wm,ι',w',bO,bI,ft,e1,e2,λj _=>e3 j λi hi X5=>U,e4,e5,e6,e7,⟨e8.1,λj _ hn=>e8.2 j (λi hi X5=>U) hn⟩,e9⟩
 |o::r,k,te,tS,fs,hr,h=>by
  obtain⟨ho,FE⟩:=LO hr;have ih:∀te tS fs,pE P ty tt T inl md n0 ops r (k+1) te tS fs K->wu P ty aD call yf B ops Q md mm (k+1) te tS fs:=λte tS fs=>Dd hT hI pz hK r (k+1) te tS fs FE.symm;simp only[pE]at h;split at h;rename_i hg;exact Ux hT hI pz ho (abI hg) ih h;rename_i hg;exact Ie pz ho (abI hg) ih h;rename_i d b want hg;obtain⟨h1,h2⟩:=adY hg;split at h;obtain⟨k1,k2⟩:=uY h;cases b with
  |true=>have:=pM te d _ (k1 rfl);rw[oP h1]at this;exact Ux hT hI pz ho h2 ih this
  |false=>have:=pM te d _ (k2 rfl);rw[oP h1]at this;exact Ie pz ho h2 ih this
  obtain⟨k1,k2⟩:=uY h;cases b with
  |true=>have:=pM te d _ (k1 rfl);rw[oP h1]at this;exact Ie pz ho h2 ih this
  |false=>have:=pM te d _ (k2 rfl);rw[oP h1]at this;exact Ux hT hI pz ho h2 ih this
  grind
end Go.Tv
