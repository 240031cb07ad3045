import Derived.Test.YtadeehilamokkaaGreatDoorPk09
namespace Go.Tv
open Go Go.Di Go.Proofs
theorem vJ{b:Bool}{A B:Prop}(h:bM b A B):(b=true->A)/\(b=false->B):=by cases b<;>exact⟨λe=>by cases e<;>exact h,λe=>by cases e<;>exact h⟩
theorem iL{b:Bool}{A:Prop}(h:bM b A False):b=true/\A:=by cases b;exact h.elim;exact⟨rfl,h⟩
theorem lu:∀{l:List Prop},cV l↔∀p∈l,p
 |[]=>by simp[cV]
 |p::l=>by have:=lu (l:=l);simp only[cV,this,aV,forall_eq_or_imp]
theorem iE:∀{l:List Prop}{R:Prop},Aq l R->cV l/\R
 |[],_,h=>⟨trivial,h⟩
 |p::l,R,h=>by obtain⟨h1,h2⟩:=iE h.2;exact⟨lu.2 (by rintro q hq;rcases aV.1 hq with rfl|hq;exact h.1;exact lu.1 h1 q hq),h2⟩
theorem jQ{l m:List Prop}(h:cV (l++m)):cV l/\cV m:=by rw[lu]at h;exact⟨lu.2 λp hp=>h p (qC _ hp),lu.2 λp hp=>h p (List.mem_append_right _ hp)⟩
theorem mL:∀{l:List Prop}{R:Prop},impl l R->cV l->R
 |[],_,h,_=>h
 |p::l,R,h,k=>by rw[lu]at k;exact mL (h (k p (gO ..))) (lu.2 λq hq=>k q (nt _ hq))
theorem mc{o:Option (List Prop)}{K:Prop}(h:ask o K):∃l,o=some l/\cV l/\K:=by
 cases o with
 |none=>exact h.elim
 |some l=>exact⟨l,rfl,iE h⟩
theorem It{R K:TV->cp->List Prop->Prop}:∀{s:tG},s.all R->s.some K->∃v cs fs,R v cs fs/\K v cs fs
 |.ex _ _,h,⟨x,k⟩=>It (h x) k
 |.res v cs fs,h,k=>⟨v,cs,fs,h,k⟩
theorem HO{R:TV->cp->Prop}{v:TV}{cs:cp}{s:tG}(h:s.all λv cs fs=>impl fs (R v cs))(k:s.holds v cs):R v cs:=by obtain⟨v',iB,fs,h,rfl,rfl,hf⟩:=It h k;exact mL h hf
theorem Fo{R:TV->Prop}{v:TV}{s:tG}(h:s.all λv _ fs=>impl fs (R v))(k:s.uo v):R v:=by obtain⟨v',iB,fs,h,rfl,hf⟩:=It h k;exact mL h hf
theorem Ph{R:cp->Prop}{cs:cp}{s:tG}(h:s.all λ_ cs fs=>impl fs (R cs))(k:s.AD cs):R cs:=by obtain⟨v',iB,fs,h,rfl,hf⟩:=It h k;exact mL h hf
mutual
theorem gf:∀(v:TV){K:TV->Prop},fZ v K->K v
 |.unk,_,h=>h
 |.val v,_,h=>by cases v<;>exact h
 |.jD,_,h=>h
 |.agg l,K,h=>by simp only[fZ]at h;exact cC l (K:=λl=>K (.agg l)) h
 |.tup l,K,h=>by simp only[fZ]at h;exact cC l (K:=λl=>K (.tup l)) h
 |.sl _ _ _,_,h=>h
 |.ptr _ _,_,h=>h
 |.eU _ _ _ _,_,h=>h
 |.mp _,_,h=>h
 |.so _ _,_,h=>h
 |.sp _ _ _ _,_,h=>h
 |.nN k fn te,K,h=>by simp only[fZ]at h;exact cC te (K:=λte=>K (.nN k fn te)) h
 |.fn f a b,K,h=>by simp only[fZ]at h;exact cC b (K:=λb=>K (.fn f a b)) (cC a (K:=λa=>cO b λb=>K (.fn f a b)) h)
theorem cC:∀(l:cp){K:cp->Prop},cO l K->K l
 |[],_,h=>h
 |a::l,K,h=>by have h1:=gf a (K:=λa=>match qO a with|true=>K (a::l)|false=>cO l λl=>K (a::l)) (by simp only[cO]at h;exact h);split at h1;exact h1;exact cC l (K:=λl=>K (a::l)) h1
end
theorem cD:∀(l:cx){K:cx->Prop},bP l K->K l
 |[],_,h=>h
 |.cells c::l,K,h=>cD l (K:=λl=>K (.cells c::l)) (cC c (K:=λc=>bP l λl=>K (.cells c::l)) h)
 |.none::l,K,h=>cD l (K:=λl=>K (.none::l)) h
 |.loop::l,K,h=>cD l (K:=λl=>K (.loop::l)) h
 |.own e s::l,K,h=>cD l (K:=λl=>K (.own e s::l)) h
 |.map kt c::l,K,h=>cD l (K:=λl=>K (.map kt c::l)) h
 |.rows t e c z::l,K,h=>cD l (K:=λl=>K (.rows t e c z::l)) h
theorem qo:∀(l:cp)(n:Nat)(v:TV){K:cp->Prop},FK l n v K->K (l.set n v)
 |[],_,_,_,h=>h
 |_::_,0,_,_,h=>h
 |a::l,n+1,v,K,h=>qo l n v (K:=λl=>K (a::l)) h
theorem eB{te:cp}{dst:Option Tmp}{v:TV}{K:cp->Prop}(h:fU te dst v K):K (jV te dst v):=by
 cases dst with
 |none=>exact h
 |some d=>exact qo te d v h
theorem pJ:∀{l:cp}{n:Nat}{v:TV},l[n]? =some v->l.set n v=l
 |[],_,_,h=>by simp at h
 |_::_,0,_,h=>by simp only[dH,aF]at h;rw[h];rfl
 |a::l,n+1,v,h=>by rw[List.set_cons_succ,pJ (l:=l) (by simpa using h)]
mutual
theorem DU:∀{a b:TV}{l:List Prop},Zt a b=some l->cV l->a=b
 |a,b,l,h,k=>by
  unfold Zt at h;split at h;rfl;split at h;rename_i hk;subst hk;cases h;rw[show _=_ from k.1];cases h;cases h;rw[show _=_ from k.1]
  cases h;rw[show _=_ from k.1]
  rfl;rw[uq h k];rw[uq h k];split at h;rename_i ht;subst ht;cases h;cases(show _=_ from k.1);rfl
  cases h;split at h;rename_i ht;subst ht;cases h;cases(show _=_ from k.1);rfl
  cases h;split at h;rename_i ht;subst ht;split at h;rename_i hg;subst hg;cases h;cases(show _=_ from k.1);rfl
  cases h;cases h;split at h;rename_i ht;subst ht;split at h;rename_i hb;subst hb;cases h;cases(show _=_ from k.1);rfl;cases h;cases h
  grind
  grind
  split at h;rename_i ht;obtain⟨rfl,rfl⟩:=ht;rw[uq h k]
  cases h
  grind
  split at h;rename_i ht;subst ht;cases h;obtain⟨k1,k2,k3⟩:=k;cases(show _=_ from k1);cases(show _=_ from k2);cases(show _=_ from k3.1);rfl
  cases h;split at h;rename_i hf;subst hf;split at h;rename_i x y h1 h2;cases h;obtain⟨k1,k2⟩:=jQ k;rw[uq h1 k1,uq h2 k2];cases h;cases h;cases h
theorem uq:∀{a b:cp}{l:List Prop},RG a b=some l->cV l->a=b
 |[],[],_,_,_=>rfl
 |a::l,b::m,_,h,k=>by simp only[RG]at h;split at h;simp only[af]at h;obtain⟨x,h1,rfl⟩:=h;obtain⟨k1,k2⟩:=jQ k;rw[DU h1 k1,(show l=m from k2.1)];split at h;rename_i x y h1 h2;cases h;obtain⟨k1,k2⟩:=jQ k;rw[DU h1 k1,uq h2 k2];cases h
 |[],_::_,_,h,_=>by simp[RG]at h
 |_::_,[],_,h,_=>by simp[RG]at h
end
def LeV(u v:TV):Prop:=∀l m,u6 l m->u6 (u::l) (v::m)
mutual
theorem IB:∀{v u:TV}{l:List Prop},leT v u=some l->cV l->LeV u v
 |v,u,l,h,k=>by unfold leT at h;split at h;exactλ_ _=>.unk;split at h;rename_i ht;subst ht;cases h;cases(show _=_ from k.1);exactλ_ _=>.no;cases h;split at h;rename_i ht;subst ht;cases h;cases(show _=_ from k.1);exactλ_ _=>.stop;cases h;split at h;split at h;rename_i ht;subst ht;cases h;cases(show _=_ from k.1);exactλ_ _=>.oS;cases h;cases h;cases h;cases(show _=_ from k.1);exactλ_ _=>.jD;rename_i a b;have:=yM h k;exactλ_ _=>.agg this;rw[DU h k];exactλ_ _=>.same
theorem yM:∀{v u:cp}{l:List Prop},Ie v u=some l->cV l->u6 u v
 |[],[],_,_,_=>.nil
 |a::l,b::m,_,h,k=>by simp only[Ie]at h;split at h;simp only[af]at h;obtain⟨x,h1,rfl⟩:=h;obtain⟨k1,k2⟩:=jQ k;exact IB h1 k1 _ _ k2.1;split at h;rename_i x y h1 h2;cases h;obtain⟨k1,k2⟩:=jQ k;exact IB h1 k1 _ _ (yM h2 k2);cases h
 |[],_::_,_,h,_=>by simp[Ie]at h
 |_::_,[],_,h,_=>by simp[Ie]at h
end
theorem abN:∀{v u:cx}{l:List Prop},qK v u=some l->cV l->Cq u v
 |v,u,l,h,k=>by
  induction u generalizing v l with
  |nil=>exact .nil
  |cons b m ih=>
   cases v with
   |nil=>
    cases b with
    |own e s=>exact .new (ih _ _ h k)
    |_=>simp[qK]at h
   |cons a v=>
    cases b with
    |none=>exact .none (ih _ _ (by simpa [qK]using h) k)
    |loop=>
     cases a with
     |loop=>exact .loop (ih _ _ (by simpa [qK]using h) k)
     |_=>simp[qK]at h
    |cells c=>
     cases a with
     |cells d=>simp only[qK]at h;split at h;rename_i x y h1 h2;cases h;obtain⟨k1,k2⟩:=jQ k;exact .cells (yM h1 k1) (ih _ _ h2 k2);cases h
     |_=>simp[qK]at h
    |own e s=>
     cases a with
     |own e' s'=>simp only[qK]at h;split at h;rename_i he;obtain⟨rfl,rfl⟩:=he;exact .own (ih _ _ h k);cases h
     |_=>simp[qK]at h
    |map kt c=>
     cases a with
     |map kt' c'=>simp only[qK]at h;split at h;rename_i he;subst he;split at h;rename_i y h2;cases h;obtain⟨k1,k2⟩:=k;cases(show _=_ from k1);exact .map (ih _ _ h2 k2);cases h;cases h
     |_=>simp[qK]at h
    |rows t e c z=>
     cases a with
     |rows t' e' c' z'=>simp only[qK]at h;split at h;rename_i he;subst he;split at h;rename_i hez;obtain⟨rfl,rfl⟩:=hez;split at h;rename_i y h2;cases h;obtain⟨k1,k2⟩:=k;cases(show _=_ from k1);exact .rows (ih _ _ h2 k2);cases h;cases h;cases h
     |_=>simp[qK]at h
theorem zD{sl:List (Nat×TV)}{keep:Nat}:∀{i:Nat}{te:cp}{l:List Prop},wL sl i te=some l->cV l->u6 (ot sl keep i te) te
 |_,[],_,_,_=>.nil
 |i,v::te,l,h,k=>by simp only[wL]at h;simp only[ot];split at h;rename_i p hp;split at h;rename_i x y h1 h2;cases h;obtain⟨k1,k2⟩:=jQ k;exact IB h1 k1 _ _ (zD h2 k2);cases h;rename_i hp;split;exact .same (zD h k);exact .unk (zD h k)
theorem iC{pl:List (Nat×cp)}{mp:MpL}{own:List (Nat×Nat)}:∀{i:Nat}{tS:cx}{l:List Prop},jg pl mp i tS=some l->cV l->Cq (tX pl mp i tS++own.map λp=>TB.own p.1 p.2) tS
 |_,[],_,_,_=>LH own
 |i,.none::tS,l,h,k=>by simp only[jg]at h;exact .none (iC h k)
 |i,.loop::tS,l,h,k=>by simp only[jg]at h;exact .loop (iC h k)
 |i,.own _ _::tS,l,h,k=>by simp only[jg]at h;exact .own (iC h k)
 |i,.cells c::tS,l,h,k=>by simp only[jg]at h;simp only[tX,gM];split at h;rename_i p hp;split at h;rename_i x y h1 h2;cases h;obtain⟨k1,k2⟩:=jQ k;exact .cells (yM h1 k1) (iC h2 k2);cases h;exact .cells (u6.refl c) (iC h k)
 |i,.map kt c::tS,l,h,k=>by simp only[jg]at h;simp only[tX,gM];split at h;rename_i a kt' c' hp;split at h;rename_i he;subst he;split at h;rename_i y h2;cases h;obtain⟨k1,k2⟩:=k;cases(show c=c' from k1);exact .map (iC h2 k2);cases h;cases h;exact .map (iC h k)
 |i,.rows kt e c z::tS,l,h,k=>by simp only[jg]at h;simp only[tX,gM];split at h;rename_i a kt' c' hp;split at h;rename_i he;subst he;split at h;rename_i y h2;cases h;obtain⟨k1,k2⟩:=k;cases(show c=c' from k1);exact .rows (iC h2 k2);cases h;cases h;exact .rows (iC h k)
variable {P:Program} {ty:fo} {tt:TypeId->cJ} {T:ij} {ι ι' w:kW} {S S':aj} {te mh:cp} {env:cn} {tS iq:cx} {aD:bT} {call:bg} {yf:dx} {o:Oper} {aB nT:Nat} {B:cy} {r:TR} {ops:Array Oper} {L:Nat} {fn:FuncId} {iH:Bool}
theorem Pg{v:TV}{c:Prop}(h:D2 te o=some (v,c))(hc:c):bI P ty tt te tS o=some (v,True):=by
 unfold D2 at h;split at h;rename_i t x y _ ho;split at h;rename_i a b h1 h2;cases h;have:fG P (do eqGuard .add t x y (.int .i64 a) (.int .i64 b);binOp .add t (.int .i64 a) (.int .i64 b))=some (.val (.int .i64 (IntKind.i64.wrap (a+b)))):=rfl;simp only[bI,ho,h1,h2,bQ,fJ,this,tI,ay,Ar hc.1 hc.2];rename_i a b h1 h2;cases h;have:fG P (do eqGuard .add t x y (.string a) (.string b);binOp .add t (.string a) (.string b))=some (.val (.string (a++b))):=by show(bN P (Op.stringOp .add a b)).bind wF=_;simp only[Op.stringOp];rw[if_neg (by rw[show IntKind.i64.max=9223372036854775807 from rfl];omega)];rfl
 simp only[bI,ho,h1,h2,bQ,fJ,this,tI,ay];cases h;rename_i t x y _ ho;split at h;rename_i a b h1 h2;cases h;have:fG P (do eqGuard .sub t x y (.int .i64 a) (.int .i64 b);binOp .sub t (.int .i64 a) (.int .i64 b))=some (.val (.int .i64 (IntKind.i64.wrap (a-b)))):=rfl;simp only[bI,ho,h1,h2,bQ,fJ,this,tI,ay,Ar hc.1 hc.2];cases h;rename_i t x y _ ho;split at h;rename_i a b h1 h2;cases h;have:fG P (do eqGuard .mul t x y (.int .i64 a) (.int .i64 b);binOp .mul t (.int .i64 a) (.int .i64 b))=some (.val (.int .i64 (IntKind.i64.wrap (a*b)))):=rfl;simp only[bI,ho,h1,h2,bQ,fJ,this,tI,ay,Ar hc.1 hc.2];cases h;rename_i t x ho;split at h;rename_i a h1;cases h;have:fG P (Op.unary .neg (.int .i64 a))=some (.val (.int .i64 (IntKind.i64.wrap (-a)))):=by rw[<-Int.zero_sub];rfl
 simp only[bI,ho,h1,bQ,fJ,this,tI,ay,Ar hc.1 hc.2];cases h;rename_i t x y _ ho;split at h;rename_i a b h1 h2;cases h;have:fG P (do eqGuard .and t x y (.int .i64 a) (.int .i64 b);binOp .and t (.int .i64 a) (.int .i64 b))=some (.val (.int .i64 (agA a b))):=by cases a<;>rfl
 simp only[bI,ho,h1,h2,bQ,fJ,this,tI,ay];cases h;rename_i t x y _ ho;split at h;rename_i a b h1 h2;cases h;have:fG P (do eqGuard .rem t x y (.int .i64 a) (.int .i64 b);binOp .rem t (.int .i64 a) (.int .i64 b))=some (.val (.int .i64 (a.tmod b))):=by show(bN P (Op.intDiv .rem .i64 a b)).bind wF=_;simp only[Op.intDiv,hc,if_false];rfl
 simp only[bI,ho,h1,h2,bQ,fJ,this,tI,ay];cases h;cases h
theorem aci{t:TypeId}{xs ys:Array Value}{b:Bool}(ht:P.underlying t=some (.struct (P.fieldsOf t)))(hp:P.stoodInHeld t=false)(hm:P.eqGuardType P.depth t=false)(hf:bN P (Op.eqFields 9999 xs ys (P.fieldsOf t).toList)=some b)(x y:Operand):
  fG P (do eqGuard .eql t x y (.agg xs) (.agg ys);binOp .eql t (.agg xs) (.agg ys))=some (.val (.bool b)):=by
 have h1:bN P (eqGuard .eql t x y (.agg xs) (.agg ys))=some ():=by simp only[eqGuard];simp only[fR,aJ,if_false,ez,nv,bQ,hm,yV,if_true];rfl
 have h2:bN P (binOp .eql t (.agg xs) (.agg ys))=some (.bool b):=by simp only[binOp,ez,Op.equal,Op.maxDepth,sR 9999 t xs ys ht hp,hf,bQ];rfl
 rw[fG,ez,h1,bQ,h2];rfl
theorem Ra{xs ys:Array Value}{fs:List Field}{b:Bool}(h:aef P xs ys fs=some b):bN P (Op.eqFields 9999 xs ys fs)=some b:=EB (λ_ _ _ _ h=>W8 ab h) h
theorem Y9{b:Bool}(h:Vs P te o=some b):bI P ty tt te tS o=some (.val (.bool b),True):=by unfold Vs at h;split at h;rename_i t x y _ ho;split at h;rename_i xs ys h1 h2;split at h;rename_i fs h3 h4 h5;simp only[af]at h;obtain⟨r,h6,rfl⟩:=h;have e:=ach (P:=P) (sP h3) h4 h5 (b:=r) (by simp only[Program.fieldsOf,h3];exact Ra h6) x y;simp only[bI,ho,h1,h2,e,tI,ay];cases h;cases h;rename_i t x y _ ho;split at h;rename_i xs ys h1 h2;split at h;rename_i fs h3 h4 h5;have e:=aci (P:=P) (sP h3) h4 h5 (b:=b) (by simp only[Program.fieldsOf,h3];exact Ra h) x y;simp only[bI,ho,h1,h2,e,tI,ay];cases h;cases h;cases h
end Go.Tv
namespace Go.Tv
open Go Go.Di Go.Proofs
variable {P:Program} {ty:fo} {tt:TypeId->cJ} {T:ij} {ι ι' w:kW} {S S':aj} {te mh:cp} {env:cn} {tS iq:cx} {aD:bT} {call:bg} {yf:dx} {o:Oper} {aB nT:Nat} {B:cy} {r:TR} {ops:Array Oper} {L:Nat} {fn:FuncId} {iH:Bool} {fs:cY}
theorem Po{md:Nat}(h:md<=2):md=0\/md=1\/md=2:=ab
theorem YE{α β:Type}{x:Option α}{f:α->β}{q:β×Prop}(h:x.map (λa=>(f a,True))=some q):q.2:=by simp only[af]at h;obtain⟨_,_,rfl⟩:=h;trivial
theorem Oc{s d:TypeId}{x:Operand}{q:TV×Prop}(h:strOf P te s d x=some q):q.2:=by
 unfold strOf at h;split at h;split at h;cases h;trivial
 cases h;cases h
theorem Lt{q:TV×Prop}(hc:AH o=false)(h:bI P ty tt te tS o=some q):q.2:=by
 unfold AH at hc;unfold bI at h;cases ho:o.op;all_goals simp only[ho]at hc h
 all_goals try(cases hc;done)
 all_goals repeat' (split at h)
 all_goals first
  |(cases h;done)
  |(cases h;trivial)
  |exact YE h
  |exact Oc h
  |contradiction
  |(simp only[af]at h;obtain⟨_,_,rfl⟩:=h;trivial)
theorem YA{q:TR}(hc:AH o=false)(h:stepT P ty tt te tS o nT=some q):q.c:=by
 have hp:∀{q:TR},((bI P ty tt te tS o).map λr=>(⟨r.1,te,tS,kS te o,r.2⟩:TR))=some q->q.c:=by intro q h;simp only[af]at h;obtain⟨a,h1,rfl⟩:=h;exact Lt hc h1
 unfold stepT at h;split at h
 grind
 grind
 split at h;split at h;split at h;simp only[af]at h;obtain⟨_,_,rfl⟩:=h;trivial;cases h;cases h;cases h;rename_i ho;simp only[AH,ho]at hc;cases hc;exact hp h
def Nb(o:Oper):Prop:=(∃op t x y u,o.op=.binOp op t x y u)\/∃op t x,o.op=.unOp op t x
theorem zQ{v:TV}(hb:Nb o)(h:bI P ty tt te tS o=some (v,True)):stepT P ty tt te tS o nT=some ⟨v,te,tS,[],True⟩:=by rcases hb with ⟨op,t,x,y,u,ho⟩|⟨op,t,x,ho⟩<;>simp only[stepT,ho,h,ay,kS]
theorem Ue{v:TV}{c:Prop}(h:D2 te o=some (v,c)):Nb o:=by
 unfold D2 at h;split at h;rename_i ho;exact .inl ⟨_,_,_,_,_,ho⟩
 rename_i ho;exact .inl ⟨_,_,_,_,_,ho⟩
 rename_i ho;exact .inl ⟨_,_,_,_,_,ho⟩
 rename_i ho;exact .inr ⟨_,_,_,ho⟩
 rename_i ho;exact .inl ⟨_,_,_,_,_,ho⟩
 rename_i ho;exact .inl ⟨_,_,_,_,_,ho⟩
 cases h
theorem acj{b:Bool}(h:Vs P te o=some b):Nb o:=by
 unfold Vs at h;split at h;rename_i ho;exact .inl ⟨_,_,_,_,_,ho⟩
 rename_i ho;exact .inl ⟨_,_,_,_,_,ho⟩
 cases h
theorem afM(hb:Nb o):ny o=false:=by rcases hb with ⟨op,t,x,y,u,ho⟩|⟨op,t,x,ho⟩<;>simp only[ny,ho]
theorem LY{g:FuncId}{targs:cp}(h:PS tt te o=some (g,targs)):∃f args argTypes fs cs xs,o.op=.call {callee:=.value f,args,argTypes}/\eL te f=some (.fn g fs cs)/\lD te args.toList=some xs/\(fs++xs++cs).all eu=true/\bL (fM tt fs argTypes) (fs++xs++cs)=targs:=by
 unfold PS at h;split at h
 grind
 cases h
theorem Te{g:FuncId}{kp:Nat}{targs ts:cp}(h:NN tt te tS o=some (g,kp,targs,ts)):∃f args argTypes fs cs xs,o.op=.call {callee:=.value f,args,argTypes}/\eL te f=some (.fn g fs cs)/\lD te args.toList=some xs/\yB kp (fM tt fs argTypes) (fs++xs++cs)=some targs/\(fs++xs++cs).any isRef=true/\tS[kp]? =some (.cells ts)/\eM ts=[]:=by
 unfold NN at h;split at h
 grind
 cases h
theorem Tf{g:FuncId}{kp:Nat}{targs ts:cp}(h:NP tt te tS o=some (g,kp,targs,ts)):∃f args argTypes fs cs xs off rest,o.op=.call {callee:=.value f,args,argTypes}/\eL te f=some (.fn g fs cs)/\lD te args.toList=some xs/\fs++xs++cs=.ptr kp off::rest/\rest.all eu=true/\tS[kp]? =some (.cells ts)/\ts.all kG=true/\targs=.ptr 0 off::bL (fM tt fs argTypes).tail rest:=by
 unfold NP at h;split at h
 grind
 cases h
theorem LP{md:Nat}{v:TV}{cs:cp}{K:Prop}(h:Kv md v cs K):(md=2->BH v=true/\cs.all kG=true)/\K:=by
 unfold Kv at h;split at h
 grind
 grind
def vI(call:bg)(g:FuncId)(A:cp)(tS:cx)(K:TV->cx->Prop):Prop:=
 ∀ι bV S,bO ι A tS bV S->∃d S' ι' v bK,call g bV S=some (d,S')/\bO ι' [v] bK [d] S'/\oy (dh 0 tS) bK/\Fr (dh 0 tS) ι S ι' S'/\Nn S.length S S'/\K v bK
theorem Y3{f:Operand}{args:Array Operand}{argTypes:Array TypeId}{g:FuncId}{fs cs xs:cp}{K:TV->cx->Prop}(hop:o.op=.call {callee:=.value f,args,argTypes})(hf:eL te f=some (.fn g fs cs))(ha:lD te args.toList=some xs)(hr:(fs++xs++cs).any isRef=true\/ty.h o=1)
  (hc:vI call g (fs++xs++cs) tS K):Does P ty aD call yf B o nT te tS false λv bS bK _=>bS=fI tS te/\K v bK:=by
 intro ι w env S aB hR hB hw hT Dh hS;obtain⟨xe,iB,F5,k1,k2,k3⟩:=ig hR.env hf ha;obtain⟨d,S',ι',v,bK,m1,m2,m3,m4,m5,m6⟩:=hc ι _ S ⟨k3,hR.cells,hR.own,hR.qH,hR.inj,hR.mp⟩;obtain⟨w',hw'⟩:=Nx m2;obtain⟨_,_,e,m7,-⟩:=ax m2.env;cases e;have Vi:∀k,k∈B->k∈dh 0 tS:=λk hk=>by obtain⟨l,h1⟩:=hB k hk;exact rB h1
 refine⟨d,S',ι',w',v,fI tS te,bK,⟨none,true⟩,⟨none,true⟩,λ_=>?_,λe=>aE,⟨λe=>e,λl hl=>bc⟩,λl m hl=>bc,⟨jN (λk hk=>?_) _ _ hR.env,m2.cells,m2.own,m2.qH,m2.inj,m2.mp⟩,m7,hw',λe=>aE,⟨m4.rest,m4.ours,λk hk=>m4.base k (Vi k hk)⟩,λk hk=>m3 k (Vi k hk),⟨m5.1,λj hj dU=>m5.2 j (by have:=(aI.1 dU).1;omega) dU⟩,rfl,m6⟩;rcases hr with hr|hr;have:=mO hr k3;simp only[ah,hop,k1,k2,wN,this,aJ,if_false,m1];split<;>rfl;simp only[ah,hop,k1,k2,hr,m1];unfold jI at hk;split at hk;rename_i c hc;exact m4.base k (LJ hc)
 cases hk
theorem abW{md:Nat}{A:cp}{fn:Func}{j:List (Nat×LA)}(h:adP ty T md te o=some (A,fn,j)):md=0/\∃f args argTypes g fs cs xs,o.op=.call {callee:=.value f,args,argTypes}/\eL te f=some (.fn g fs cs)/\lD te args.toList=some xs/\((fs++xs++cs).any isRef=true\/ty.h o=1)/\A=fs++xs++cs/\T.X g=some (fn,j):=by
 unfold adP at h;split at h;split at h;rename_i g A' h1;split at h;rename_i tF j' h2;cases h;unfold af7 at h1;split at h1
 grind
 cases h1;cases h;cases h;cases h
theorem rA{b:Bool}{c:Prop}(h:adL ty te o=some (b,c))(hc:c):(∃op t x y u,o.op=.binOp op t x y u)/\∀{env:cn},cq ι S te env->∀aB,ah P ty aD call yf (ir env) o S aB=some (.val (.bool b),S):=by
 unfold adL at h;split at h;rename_i t x y _ ho;refine⟨⟨_,_,_,_,_,ho⟩,λ{env} hE aB=>?_⟩;split at h;rename_i h1 h2 h3;cases h;obtain⟨d1,k1,k2⟩:=bp hE h2;obtain⟨d2,k3,k4⟩:=bp hE h3;cases d1<;>simp only[RT]at k2;cases d2<;>simp only[RT]at k4;obtain⟨rfl,rfl,rfl⟩:=k4;rename_i rows tok f;have hr:rows.isEmpty=false:=by
  have:=lX k2.1;cases rows with
  |nil=>exact absurd (eE (by simpa using this.symm)) hc
  |cons=>rfl
 simp only[ah,ho,valOf,k1,k3,bQ,wA,DO,h1,Nk,hr,aJ,if_false,ay];rename_i h1 h2 h3;cases h;obtain⟨d1,k1,k2⟩:=bp hE h2;obtain⟨d2,k3,k4⟩:=bp hE h3;cases d1<;>simp only[RT]at k2;cases d2<;>simp only[RT]at k4;obtain⟨rfl,rfl,rfl⟩:=k4;obtain⟨rfl,rfl,rfl⟩:=k2;simp only[ah,ho,valOf,k1,k3,bQ,wA,DO,h1,Nk,List.isEmpty_nil,if_true,ay];cases h;cases h
theorem LQ{b:Value}(hb:∃op t x y u,o.op=.binOp op t x y u)(h:∀{ι:kW}{S:aj}{env:cn},cq ι S te env->∀aB,ah P ty aD call yf (ir env) o S aB=some (.val b,S))(dr:Bool):Does P ty aD call yf B o nT te tS dr λv bS bK ft=>v=.val b/\bS=te/\bK=tS/\ft=⟨some [],false⟩:=by intro ι w env S aB hR hB hw hT hn hS;obtain⟨op,t,x,y,u,ho⟩:=hb;refine⟨.val b,S,ι,w,.val b,te,tS,⟨some [],false⟩,⟨some [],false⟩,λ_=>h hR.env aB,λ_=>?_,⟨id,λl hl=>⟨[],rfl,λj hj=>(by cases hj)⟩⟩,λl m _ hm j hj=>(by cases hm;cases hj),hR,by simp only[RT],hw,λ_ _ _=>rfl,Fr.refl _ _ _,hB,fP _ _,rfl,rfl,rfl,rfl⟩;have:=h hR.env aB;simp only[aH,ho];rw[this];rfl
theorem aeC{k:Nat}{b:Value}{Q:cp->Prop}(ho:ops[k]? =some o)(hw:dN ops te o=some true)(hb:∃op t x y u,o.op=.binOp op t x y u)(h:∀{ι:kW}{S:aj}{env:cn},cq ι S te env->∀aB,ah P ty aD call yf (ir env) o S aB=some (.val b,S))(hq:WQ P ty aD call yf ops tS (k+1) (jV te o.dst (.val b)) Q):WQ P ty aD call yf ops tS k te Q:=by
 intro ι env S hR;obtain⟨aL,bS,n1,n2,n3⟩:=hq ι (j4 env o.dst (.val b)) S (oA hR (by simp only[RT]) _);refine⟨aL,bS,?_,n2,n3⟩;rw[oE ho];have hs:=h hR.env S.length;obtain⟨op,t,x,y,u,hop⟩:=hb;have hq:de P ty aD call yf (ir env) o S=some (.val b):=by simp only[de,hop];rw[hs];rfl
 simp only[qI,ia hR.env hw,if_true,hq,n1]
def xk(P:Program)(ty:fo)(aD:bT)(call:bg)(yf:dx)(B:cy)(ops:Array Oper)(Q:cp->cx->Prop)(md:Nat)(mU:cx)(k:Nat)(te:cp)(tS:cx)(fs:cY):Prop:=
 match md with
 |0=>WL P ty aD call yf B ops k te tS Q
 |1=>tS=mU->WQ P ty aD call yf ops mU k te λte=>Q te mU
 |_=>WD P ty aD call yf B ops k te tS fs Q
theorem IY{Q:cp->cx->Prop}{md k:Nat}{mU:cx}(qc:md<=2)(ho:ops[k]? =some o)(hw:dN ops te o=some false){K:KO}(hK:∀te tS fs,K te tS fs->xk P ty aD call yf B ops Q md mU (k+1) te tS fs)(h:PA o te tS fs K):xk P ty aD call yf B ops Q md mU k te tS fs:=by have h1:=hK _ _ _ (eB (K:=λte=>K te tS (fs++[fW])) h);rcases Po qc with rfl|rfl|rfl;exact aaV ho hw h1;exactλe=>aaU ho hw (h1 e);exact aa1 ho hw h1
variable {inl:Inl}
structure wR (P:Program) (ty:fo) (call:bg) (yf:dx) (T:ij) (inl:Inl):Prop where
 c:∀g fn j A tS (K:TV->cx->Prop),T.X g=some (fn,j)->inl.c fn j A tS K->vI call g A tS K
 y:∀k rU Ac xs tS (K:cx->Prop),inl.y k rU Ac xs tS K->∃ps ox body Ig yA ZC,Cu rU=some (ps,ox,body)/\yf=um P ty Ig yA ZC LL/\xs.length=ps.length/\(eM (oc Ac (ps.zip xs))++od tS).contains k=false/\WT P ty Ig yA ZC (nY k tS) LL rU true ox (oc Ac (ps.zip xs)) (tS.set k .none) λe mh iq=>e=.normal/\WT P ty Ig yA ZC (nY k tS) LL rU true body mh iq λe _ jA=>e=.normal/\jA[k]? =some .none/\K jA
theorem aaM{md k:Nat}{rU:FuncId}{Ac xs:cp}(h:adv md te tS o=some (k,rU,Ac,xs)):md≠1/\∃f args argTypes,o.op=.call {callee:=.value f,args,argTypes}/\eL te f=some (.nN k rU Ac)/\lD te args.toList=some xs/\tS[k]? =some .loop:=by
 unfold adv at h;split at h
 grind
 cases h
def Nw(ty:fo)(md:Nat)(o:Oper)(tE:cp)(th:cx)(te:cp)(tS:cx):Prop:=
 match md with
 |0=>Nd ty tE th o=some (te,tS)
 |_=>tE=te/\th=tS
theorem Lz(hT:ql T aD call){Q:cp->cx->Prop}{md n0 k:Nat}{mU th:cx}{tE:cp}(qc:md<=2)(ho:ops[k]? =some o)(hw:dN ops tE o=some true)(mV:Nw ty md o tE th te tS){K:KO}(hK:∀te tS fs,K te tS fs->xk P ty aD call yf B ops Q md mU (k+1) te tS fs)
  (hn:Ak tS (nV md n0 k tS)=true) (hh:md=0\/ty.h o≠1) (h:IA tt T md o te tS fs K):xk P ty aD call yf B ops Q md mU k tE th fs:=by
 unfold IA at h;split at h;rename_i g L targs tP hc;obtain⟨f,args,argTypes,fs1,cs1,xs,c1,c2,c3,c4,c5,c6,c7,c8,c9,c10⟩:=TL (tt:=tt) hc;split at h;rename_i p s hm hs;obtain⟨hp,h⟩:=iE h;have hsp:=hT.M _ _ _ _ _ hs hp;have all:∀v t,s.holds v (t.map .agg)->∃tB,Ib L t=some tB/\xk P ty aD call yf B ops Q md mU (k+1) (jV te o.dst v) (yc L tB tS) (fs++[Gw md L]):=λv t hv=>by
  have h1:=HO (R:=λv cs=>ael L cs λtB=>fZ v λv=>fU te o.dst v λte=>bP (yc L tB tS) λtS=>K te tS (fs++[Gw md L])) h hv;unfold ael at h1;rw[GC]at h1;simp only at h1;split at h1;rename_i tB hb;exact⟨tB,hb,hK _ _ _ (cD _ (K:=λtS=>K _ tS (fs++[Gw md L])) (eB (K:=λte=>bP (yc L tB tS) λtS=>K te tS (fs++[Gw md L])) (gf v (K:=λv=>fU te o.dst v λte=>bP (yc L tB tS) λtS=>K te tS (fs++[Gw md L])) h1)))⟩
  grind
 rcases Po qc with rfl|rfl|rfl;refine kR ho hw mV (Pb c1 c2 c3 c4 c7 c8 c9 hsp λv t hv=>(all v t hv).imp λ_ h=>h.1) ?_;rintro v bS bK ft ⟨t,tB,hv,hb,rfl,rfl,-⟩;obtain⟨tB',e1,e2⟩:=all v t hv;rw[hb]at e1;cases e1;exact e2;cases hm;obtain⟨rfl,rfl⟩:=mV;obtain⟨d1,d2,d3⟩:=c10 ao;refine sZ ho hw hn (MI (tt:=tt) c1 (hh.resolve_left ao) c2 c3 c4 c5 c6 d1 d2 d3 c7 c8 c9 hsp λv t hv=>(all v t hv).imp λ_ h=>h.1) ?_;rintro v bS bK ft ⟨t,tB,hv,hb,rfl,rfl,rfl⟩;obtain⟨tB',e1,e2⟩:=all v t hv;rw[hb]at e1;cases e1;exact e2
 grind
 grind
theorem Li(hT:ql T aD call){Q:cp->cx->Prop}{md n0 k:Nat}{mU th:cx}{tE:cp}(qc:md<=2)(ho:ops[k]? =some o)(hw:dN ops tE o=some true)(mV:Nw ty md o tE th te tS){K:KO}(hK:∀te tS fs,K te tS fs->xk P ty aD call yf B ops Q md mU (k+1) te tS fs)
  (hn:Ak tS (nV md n0 k tS)=true) (hh:md=0\/ty.h o≠1) (h:Iw tt T md o te tS fs K):xk P ty aD call yf B ops Q md mU k tE th fs:=by
 unfold Iw at h;split at h;rename_i g kp targs ts hc;split at h;rename_i p s hs;obtain⟨hp,h⟩:=iE h;have hsp:=hT.C _ _ _ _ _ hs hp;have all:∀v cs,s.holds v cs->Kv md v cs (fZ v λv=>fU te o.dst v λte=>cO cs λcs=>bP (tS.set kp (.cells cs)) λtS=>K te tS (fs++[DD md kp])):=λv cs hv=>
  HO (R:=λv cs=>Kv md v cs (fZ v λv=>fU te o.dst v λte=>cO cs λcs=>bP (tS.set kp (.cells cs)) λtS=>K te tS (fs++[DD md kp]))) h hv
 have fin:∀v cs,s.holds v cs->xk P ty aD call yf B ops Q md mU (k+1) (jV te o.dst v) (tS.set kp (.cells cs)) (fs++[DD md kp]):=λv cs hv=>by have h1:=eB (gf v (K:=λv=>fU te o.dst v λte=>cO cs λcs=>bP (tS.set kp (.cells cs)) λtS=>K te tS (fs++[DD md kp])) (LP (all v cs hv)).2);exact hK _ _ _ (cD _ (K:=λtS=>K _ tS (fs++[DD md kp])) (cC cs (K:=λcs=>bP (tS.set kp (.cells cs)) λtS=>K _ tS (fs++[DD md kp])) h1))
 rcases Po qc with rfl|rfl|rfl;obtain⟨f,args,argTypes,fs1,cs1,xs,c1,c2,c3,c4,c5,c6,c7⟩:=Te (tt:=tt) hc;refine kR ho hw mV (O8 c1 c2 c3 c4 c5 c6 c7 hsp) ?_;rintro v bS bK ft ⟨Ai,hv,rfl,rfl,-⟩;exact fin v Ai hv;cases hc;obtain⟨f,args,argTypes,fs1,cs1,xs,off,rest,c1,c2,c3,c4,c5,c6,c7,rfl⟩:=Tf (tt:=tt) hc;obtain⟨rfl,rfl⟩:=mV;refine sZ ho hw hn (MH (tt:=tt) c1 (hh.resolve_left ao) c2 c3 c4 c5 c6 c7 hsp λv cs hv=>(LP (all v cs hv)).1 rfl) ?_;rintro v bS bK ft ⟨Ai,hv,rfl,rfl,rfl⟩;exact fin v Ai hv;exact Lz hT qc ho hw mV hK hn hh h;exact Lz hT qc ho hw mV hK hn hh h
theorem acn(hT:ql T aD call)(hI:wR P ty call yf T inl){Q:cp->cx->Prop}{md n0 k:Nat}{mU th:cx}{tE:cp}(qc:md<=2)(ho:ops[k]? =some o)(hw:dN ops tE o=some true)(mV:Nw ty md o tE th te tS){K:KO}(hK:∀te tS fs,K te tS fs->xk P ty aD call yf B ops Q md mU (k+1) te tS fs)
  (hn:Ak tS (nV md n0 k tS)=true) (h:Wb ty tt T inl md (nV md n0 k tS) o te tS fs K):xk P ty aD call yf B ops Q md mU k tE th fs:=by
 unfold Wb at h;split at h;rename_i k' rU Ac xs hx;obtain⟨hm,f,args,argTypes,c1,c2,c3,c4⟩:=aaM hx;obtain⟨ps,ox,body,Ig,yA,ZC,hrf,hyf,hlen,hr,hw'⟩:=hI.y _ _ _ _ _ _ h;have hd:∀nT dr,Does P ty aD call yf B o nT te tS dr λv bS bK ft=>∃jA,adw o te tS fs K k' jA/\v=.val (.bool true)/\bS=te.map (uc tS k')/\bK=o5 k' 0 tS (jA.set k' .loop)/\ft=⟨none,true⟩:=λnT dr=>O6 c1 hyf c2 hrf c3 c4 hlen hr hw' λjA hk=>by obtain⟨h0,-⟩:=iL hk;simp only[aC,aU]at h0;exact h0
 have fin:∀jA,adw o te tS fs K k' jA->xk P ty aD call yf B ops Q md mU (k+1) (jV (te.map (uc tS k')) o.dst (.val (.bool true))) (o5 k' 0 tS (jA.set k' .loop)) (fs++[⟨none,true⟩]):=λjA hk=>by obtain⟨-,hk⟩:=iL hk;exact hK _ _ _ (cD _ (K:=λtS=>K _ tS (fs++[⟨none,true⟩])) (eB (K:=λte=>bP (o5 k' 0 tS (jA.set k' .loop)) λtS=>K te tS (fs++[⟨none,true⟩])) (cC _ (K:=λte=>fU te o.dst (.val (.bool true)) λte=>bP (o5 k' 0 tS (jA.set k' .loop)) λtS=>K te tS (fs++[⟨none,true⟩])) hk)))
 rcases Po qc with rfl|rfl|rfl;refine kR ho hw mV (hd _ false) ?_;rintro v bS bK ft ⟨jA,hv,rfl,rfl,rfl,rfl⟩;exact fin jA hv
 grind
 obtain⟨rfl,rfl⟩:=mV;refine sZ ho hw hn (hd _ true) ?_;rintro v bS bK ft ⟨jA,hv,rfl,rfl,rfl,rfl⟩;exact fin jA hv;split at h;rename_i A fn j hx;obtain⟨rfl,f,args,argTypes,g,fs1,cs1,xs,c1,c2,c3,c4,rfl,c5⟩:=abW hx;refine kR ho hw mV (Y3 c1 c2 c3 c4 (hI.c g fn j _ tS _ c5 h)) ?_;rintro v bS bK ft ⟨rfl,hv⟩;exact hK _ _ _ (eB (K:=λte=>K te bK fs) (cC (fI tS te) (K:=λte=>fU te o.dst v λte=>K te bK fs) (gf v (K:=λv=>cO (fI tS te) λte=>fU te o.dst v λte=>K te bK fs) hv)));split at h;rename_i hh
 replace hh:ty.h o=1:=by simpa using hh
 split at h;exact Li hT qc ho hw mV hK hn (.inl rfl) h;rename_i g targs hc _ _;obtain⟨f,args,argTypes,fs1,cs1,xs,c1,c2,c3,c4,c5⟩:=LY hc;split at h;rename_i p e s hs;obtain⟨hp,h⟩:=iE h;obtain⟨rfl,rfl⟩:=mV;refine sZ ho hw hn (O7 c1 hh c2 c3 c4 c5 (hT.O _ _ _ _ _ hs hp)) ?_;rintro v bS bK ft ⟨t,J1,hv,rfl,rfl,rfl,rfl⟩;have h1:=Fo (R:=λv=>VJ e (nV 2 n0 k th) v λv b=>fZ v λv=>fU bS o.dst v λte=>bP (nS th (nV 2 n0 k th) b) λtS=>K te tS (fs++[⟨some [nV 2 n0 k th],true⟩])) h hv;simp only[VJ]at h1;exact hK _ _ _ (cD _ (K:=λtS=>K _ tS (fs++[⟨some [nV 2 n0 k th],true⟩])) (eB (gf _ (K:=λv=>fU bS o.dst v λte=>bP (nS th (nV 2 n0 k th) (.own e t.size)) λtS=>K te tS (fs++[⟨some [nV 2 n0 k th],true⟩])) h1)))
 grind
 grind
 rename_i hh
 replace hh:ty.h o≠1:=by simpa using hh
 split at h;rename_i g targs hc;obtain⟨f,args,argTypes,fs1,cs1,xs,c1,c2,c3,c4,c5⟩:=LY hc;split at h;rename_i p s hm hs;have hm:md=0:=by simpa using hm
 subst hm;obtain⟨hp,h⟩:=iE h;refine kR ho hw mV (Pa c1 hh c2 c3 c4 c5 (hT.N _ _ _ _ hs hp)) ?_;rintro v bS bK ft ⟨ts,hq,rfl,rfl,rfl⟩;have e:nS tS tS.length (.cells ts)=tS++[.cells ts]:=by unfold nS;rw[if_neg (Nat.lt_irrefl _)]
 rw[e];exact hK _ _ _ (eB (K:=λte=>K te (tS++[.cells ts]) fs) (Ph (R:=λcs=>fU bS o.dst (.ptr tS.length 0) λte=>K te (tS++[.cells cs]) fs) h hq));split at h;rename_i p s hs;obtain⟨hp,h⟩:=iE h;have hsp:=hT.I _ _ _ _ hs hp;have fin:∀v,s.uo v->xk P ty aD call yf B ops Q md mU (k+1) (jV te o.dst v) tS (fs++[fW]):=λv hv=>
  hK _ _ _ (eB (K:=λte=>K te tS (fs++[fW])) (gf v (K:=λv=>fU te o.dst v λte=>K te tS (fs++[fW])) (Fo (R:=λv=>fZ v λv=>fU te o.dst v λte=>K te tS (fs++[fW])) h hv)))
 rcases Po qc with rfl|rfl|rfl
 skip
 refine kR ho hw mV (Fj c1 hh c2 c3 c4 c5 hsp false) ?_;rintro v bS bK ft ⟨hv,rfl,rfl,-⟩;exact fin v hv;obtain⟨rfl,rfl⟩:=mV;exactλe=>Xp ho hw c1 hh c2 c3 c4 c5 hsp λv hv=>fin v hv e
 skip
 obtain⟨rfl,rfl⟩:=mV;refine sZ ho hw hn (Fj c1 hh c2 c3 c4 c5 hsp true) ?_;rintro v bS bK ft ⟨hv,rfl,rfl,rfl⟩;exact fin v hv
 grind
 exact Li hT qc ho hw mV hK hn (.inr hh) h
theorem Ld{Q:cp->cx->Prop}{md n0 k:Nat}{mU th:cx}{tE:cp}(qc:md<=2)(ho:ops[k]? =some o)(hw:dN ops tE o=some true)(mV:Nw ty md o tE th te tS){K:KO}(hK:∀te tS fs,K te tS fs->xk P ty aD call yf B ops Q md mU (k+1) te tS fs)
  (hn:Ak tS (nV md n0 k tS)=true) {v:TV} (hb:Nb o) (hp:bI P ty tt te tS o=some (v,True)) (h:fU te o.dst v λte=>K te tS (fs++[fW])):xk P ty aD call yf B ops Q md mU k tE th fs:=by
 have h1:=hK _ _ _ (eB (K:=λte=>K te tS (fs++[fW])) h);rcases Po qc with rfl|rfl|rfl
 skip
 refine kR ho hw mV (lq (zQ hb hp) trivial false) ?_;rintro v' bS bK ft ⟨rfl,rfl,rfl,-⟩;exact h1;obtain⟨rfl,rfl⟩:=mV;exactλe=>IQ ho hw (e▸hp) trivial (h1 e)
 skip
 obtain⟨rfl,rfl⟩:=mV;refine sZ ho hw hn (lq (zQ hb hp) trivial true) ?_;rintro v' bS bK ft ⟨rfl,rfl,rfl,rfl⟩;rw[afM hb];exact h1
theorem WG(hT:ql T aD call)(hI:wR P ty call yf T inl){Q:cp->cx->Prop}{md n0 k:Nat}{mU th:cx}{tE:cp}(qc:md<=2)(ho:ops[k]? =some o)(hw:dN ops tE o=some true)(mV:Nw ty md o tE th te tS){K:KO}(hK:∀te tS fs,K te tS fs->xk P ty aD call yf B ops Q md mU (k+1) te tS fs)
  (h:aag P ty tt T inl md n0 k o te tS fs K):xk P ty aD call yf B ops Q md mU k tE th fs:=by
 unfold aag at h;split at h
 grind
 rename_i hn;split at h;exact acn hT hI qc ho hw mV hK hn h;split at h;rename_i v bS bK f c hm;obtain⟨hc,h⟩:=h;have h1:=eB (cC bS (K:=λte=>fU te o.dst v λte=>bP bK λtS=>K te tS (fs++[f])) (gf v (K:=λv=>cO bS λte=>fU te o.dst v λte=>bP bK λtS=>K te tS (fs++[f])) h));have h1:=hK _ _ _ (cD bK (K:=λtS=>K _ tS (fs++[f])) h1);unfold acV at hm;split at hm;rename_i v2 g c2 hr;cases hm;rcases Po qc with rfl|rfl|rfl;refine kR ho hw mV (Fi hr hc false) ?_;rintro v' UF jA ft ⟨rfl,rfl,rfl,rfl⟩;exact h1;obtain⟨rfl,rfl⟩:=mV;exactλe=>Xo ho hw (e▸hr) hc (h1 e);obtain⟨rfl,rfl⟩:=mV;refine sZ ho hw hn (Fi hr hc true) ?_;rintro v' UF jA ft ⟨rfl,rfl,rfl,rfl⟩;exact h1;split at hm;cases hm;rename_i h91;split at hm;rename_i g jA hs;cases hm;rcases Po qc with rfl|rfl|rfl;refine kR ho hw mV (Fh hs false) ?_;rintro v' UF jA ft ⟨rfl,rfl,rfl,rfl⟩;exact h1
 grind
 obtain⟨rfl,rfl⟩:=mV;refine sZ ho hw hn (Fh hs true) ?_;rintro v' UF jA ft ⟨rfl,rfl,rfl,rfl⟩;exact h1;split at hm;rename_i h90;subst h90;simp only[af,az]at hm;obtain⟨⟨v2,UF,jA,c2⟩,hs,rfl,rfl,rfl,rfl,rfl⟩:=hm;refine kR ho hw mV (O9 hs hc) ?_;rintro v' te3 tS3 ft ⟨rfl,rfl,rfl⟩;exact h1;cases hm;split at h;rename_i v bK c hm;have h0:md=0:=by unfold mapM at hm;split at hm;rfl;cases hm
 subst h0;refine kR ho hw mV (Y2 hm h.1) ?_;rintro v' bS jA ft ⟨rfl,rfl,rfl⟩;have h1:=eB (gf v' (K:=λv=>fU bS o.dst v λte=>bP jA λtS=>K te tS (fs++[⟨none,true⟩])) h.2);exact hK _ _ _ (cD jA (K:=λtS=>K _ tS (fs++[⟨none,true⟩])) h1);split at h;rename_i v c ha;exact Ld qc ho hw mV hK hn (Ue ha) (Pg (tt:=tt) ha h.1) h.2;split at h;rename_i b _ hb;exact Ld qc ho hw mV hK hn (acj hb) (Y9 (tt:=tt) hb) h;rename_i b c _ _ hb;obtain⟨hc,h⟩:=h;have h1:=hK _ _ _ (eB (K:=λte=>K te tS (fs++[fW])) h);rcases Po qc with rfl|rfl|rfl;refine kR ho hw mV (LQ (rA (P:=P) (aD:=aD) (call:=call) (yf:=yf) (ι:=gI) (S:=[]) hb hc).1 (λhE aB=>(rA hb hc).2 hE aB) false) ?_;rintro v' bS bK ft ⟨rfl,rfl,rfl,-⟩;exact h1;obtain⟨rfl,rfl⟩:=mV;exactλe=>aeC ho hw (rA (P:=P) (aD:=aD) (call:=call) (yf:=yf) (ι:=gI) (S:=[]) hb hc).1 (λhE aB=>(rA hb hc).2 hE aB) (h1 e);obtain⟨rfl,rfl⟩:=mV;refine sZ ho hw hn (LQ (rA (P:=P) (aD:=aD) (call:=call) (yf:=yf) (ι:=gI) (S:=[]) hb hc).1 (λhE aB=>(rA hb hc).2 hE aB) true) ?_;rintro v' bS bK ft ⟨rfl,rfl,rfl,rfl⟩;exact h1;have key:md≠1->∀q:TR,stepT P ty tt te tS o (nV md n0 k tS)=some q->q.c->K (jV q.te o.dst q.v) q.tS (fs++[⟨some q.FP,ny o⟩])->xk P ty aD call yf B ops Q md mU k tE th fs:=by
  intro hm q hq hc hk;have h1:=hK _ _ _ hk;rcases Po qc with rfl|rfl|rfl
  skip
  refine kR ho hw mV (lq hq hc false) ?_;rintro v' bS bK ft ⟨rfl,rfl,rfl,-⟩;exact h1
  grind
  skip
  obtain⟨rfl,rfl⟩:=mV;refine sZ ho hw hn (lq hq hc true) ?_;rintro v' bS bK ft ⟨rfl,rfl,rfl,rfl⟩;exact h1
 split at h;split at h;rename_i q hq;have fin:∀{R:Prop},q.2->K (jV te o.dst q.1) tS (fs++[fW])->xk P ty aD call yf B ops Q 1 mU k tE th fs:=λ{_} hc hk=>by obtain⟨h8,h9⟩:=mV;subst h8 h9;exactλe=>IQ ho hw (e▸(show bI P ty tt tE th o=some (q.1,q.2)from hq)) hc (hK _ _ _ hk e)
 split at h;exact fin (R:=True) h.1 (eB (K:=λte=>K te tS (fs++[fW])) (gf q.1 (K:=λv=>fU te o.dst v λte=>K te tS (fs++[fW])) h.2));rename_i pz;exact fin (R:=True) (Lt pz hq) (eB (K:=λte=>K te tS (fs++[fW])) (gf q.1 (K:=λv=>fU te o.dst v λte=>K te tS (fs++[fW])) h))
 grind
 rename_i hm;split at h;rename_i q hq;split at h;refine key (λe=>hm e) q hq h.1 ?_;have h1:=cC q.te (gf q.v (K:=λv=>cO q.te λte=>fU te o.dst v λte=>bP q.tS λtS=>K te tS (fs++[⟨some q.FP,ny o⟩])) h.2);exact cD q.tS (K:=λtS=>K _ tS _) (eB h1);rename_i pz;refine key (λe=>hm e) q hq (YA pz hq) ?_;have h1:=eB (gf q.v (K:=λv=>fU q.te o.dst v λte=>bP q.tS λtS=>K te tS (fs++[⟨some q.FP,ny o⟩])) h);exact cD q.tS (K:=λtS=>K _ tS _) h1
 grind
theorem KZ{n:Int}{K:Nat->Prop}:∀(c j:Nat),splitK n K c j->∃i:Nat,n=i/\K i
 |0,_,h=>h.elim
 |c+1,j,h=>by
  obtain⟨h1,h2⟩:=vJ h;by_cases e:n=(j:Int)
  grind
  exact KZ c (j+1) (h2 (iP e))
theorem afQ{t c:Nat}{n:Int}(h:aem ty te o=some (t,n,c)):te[t]? =some (.val (.int .i64 n)):=by
 unfold aem at h;split at h
 grind
 grind
 cases h
theorem aeP{Q:cp->cx->Prop}{md n0 k:Nat}{mU th:cx}{tE:cp}(qc:md<=2)(ho:ops[k]? =some o)(hw:dN ops tE o=some true)(mV:Nw ty md o tE th te tS){K:KO}(hK:∀te tS fs,K te tS fs->xk P ty aD call yf B ops Q md mU (k+1) te tS fs)
  (hn:Ak tS (nV md n0 k tS)=true) {q:aeo} (hq:Cr ty tt te tS o=some q) (h:Z9 md (nV md n0 k tS) o te tS fs K q):xk P ty aD call yf B ops Q md mU k tE th fs:=by
 have quiet:∀{v v2:TV}{id:cy},bI P ty tt te tS o=some (v,True)->((∃t x i,o.op=.indexAddr t x i)\/∃t a,o.op=.load t a)->kS te o=id->UA v2 v->xk P ty aD call yf B ops Q md mU (k+1) (jV te o.dst v2) tS (fs++[⟨some id,false⟩])->xk P ty aD call yf B ops Q md mU k tE th fs:=by intro v v2 id hp hi hr hv hb;rcases Po qc with rfl|rfl|rfl;obtain⟨k1,k2⟩:=EM (nT:=tS.length) hp hi;refine kR ho hw mV (Da (lq k1 trivial false) (Q':=λv bS bK ft=>v=v2/\bS=te/\bK=tS) ?_) ?_;rintro _ _ _ _ ⟨rfl,rfl,rfl,rfl⟩;exact⟨v2,_,_,⟨none,true⟩,hv,Dm.refl _,U5.refl _,λ_=>rfl,λ_ hl=>by(cases hl),rfl,rfl,rfl⟩;rintro _ _ _ _ ⟨rfl,rfl,rfl⟩;exact hb;obtain⟨rfl,rfl⟩:=mV;exactλe=>IQ ho hw (e▸hp) trivial (agF (aeE hv _ _) (hb e));obtain⟨rfl,rfl⟩:=mV;obtain⟨k1,k2⟩:=EM (nT:=n0+k) hp hi;refine sZ ho hw hn (Da (lq k1 trivial true) (Q':=λv bS bK ft=>v=v2/\bS=tE/\bK=th/\ft=⟨some id,false⟩) ?_) ?_;rintro _ _ _ _ ⟨rfl,rfl,rfl,rfl⟩;exact⟨v2,_,_,⟨some id,false⟩,hv,Dm.refl _,U5.refl _,λe=>(by rw[k2]at e;exact e),λl hl=>⟨l,(by rw[hr];exact hl),λ_ h=>h⟩,rfl,rfl,rfl,rfl⟩;rintro _ _ _ _ ⟨rfl,rfl,rfl,rfl⟩;exact hb
 have go:∀{v:TV}{bS:cp}{bK:cx}{ft:cQ},md≠1->(∀nT dr,nT=nV md n0 k tS->Does P ty aD call yf B o nT te tS dr λv' tK tL ft'=>v'=v/\tK=bS/\tL=bK/\ft'=ft)->xk P ty aD call yf B ops Q md mU (k+1) (jV bS o.dst v) bK (fs++[ft])->xk P ty aD call yf B ops Q md mU k tE th fs:=by
  intro v bS bK ft hm hd hb;rcases Po qc with rfl|rfl|rfl;refine kR ho hw mV (hd _ false rfl) ?_;rintro _ _ _ _ ⟨rfl,rfl,rfl,rfl⟩;exact hb
  grind
  obtain⟨rfl,rfl⟩:=mV;refine sZ ho hw hn (hd _ true rfl) ?_;rintro _ _ _ _ ⟨rfl,rfl,rfl,rfl⟩;exact hb
 cases q with
 |ix v c=>
  obtain⟨hc,h⟩:=h;obtain⟨h1,h2⟩:=aeQ (P:=P) hq hc;have hr:kS te o=[]:=by obtain⟨t,x,i,e⟩:=h2;simp only[kS,e]
  exact quiet h1 (.inl h2) hr (UA.refl _) (hK _ _ _ (eB (K:=λte=>K te tS (fs++[fW])) h))
 |ld0 id off t x=>obtain⟨hc,h⟩:=iL h;obtain⟨⟨ap,h1⟩,h2,h3⟩:=aa9 (P:=P) hq (by simpa using hc);refine quiet h1 (.inr h3) h2 (λι S d hd=>?_) (hK _ _ _ (eB (v:=.sl t x .no) (K:=λte=>K te tS (fs++[⟨some [id],false⟩])) h));cases d<;>simp only[RT]at hd⊢;exact⟨hd.1,trivial⟩
 |ld id off u c l b=>
  cases b with
  |true=>obtain⟨x,g,hx,h⟩:=h;obtain⟨h1,h2,h3⟩:=Wq (P:=P) hq hx;refine quiet h1 (.inr h3) h2 (λι S d hd=>?_) (hK _ _ _ (eB (v:=.sl u x (.Ci g)) (K:=λte=>K te tS (fs++[⟨some [id],false⟩])) h));cases d<;>simp only[RT,qb]at hd⊢;exact hd
  |false=>obtain⟨x,hx,h⟩:=h;obtain⟨h1,h2,h3⟩:=Wq (P:=P) hq hx;exact quiet h1 (.inr h3) h2 (UA.refl _) (hK _ _ _ (eB (v:=.sl u x .no) (K:=λte=>K te tS (fs++[⟨some [id],false⟩])) h))
 |st id off c l u y g=>
  simp only[Z9]at h;split at h
  grind
  rename_i hm;obtain⟨j,hj,hl,h⟩:=h;exact go (by simpa using hm) (λnT dr _=>ab9 hq hj hl dr) (hK _ _ _ (cD _ (K:=λtS=>K _ tS (fs++[⟨some [id],true⟩])) (eB (K:=λte=>bP (tS.set id (.cells (c::l.set j (.sl u y (.oS g))))) λtS=>K te tS (fs++[⟨some [id],true⟩])) h)))
 |ap e s g k' l c=>
  simp only[Z9]at h;split at h;rename_i lo n hm he;obtain⟨⟨h1,h2⟩,hc,h⟩:=h;have e1:(qf e s 0 tS).1=lo:=by rw[he]
  have e2:(qf e s 0 tS).2=n:=by rw[he]
  have hd:=λdr=>acd (P:=P) (aD:=aD) (call:=call) (yf:=yf) (B:=B) (nT:=nV md n0 k tS) hq hc (by rw[e1];exact h1) (by rw[e1,e2];exact h2) dr;rw[e1,e2]at hd;exact go (by simpa using hm) (λnT dr hnT=>by subst hnT;exact hd dr) (hK _ _ _ (cD _ (K:=λbK=>K _ bK (fs++[⟨some (nV md n0 k tS::List.range' lo n),true⟩])) (eB (v:=.sl k' l (.Ci g)) (K:=λte=>bP (Ir tS g tS) λbK=>K te bK (fs++[⟨some (nV md n0 k tS::List.range' lo n),true⟩])) (cC _ (K:=λte=>fU te o.dst (.sl k' l (.Ci g)) λte=>bP (Ir tS g tS) λbK=>K te bK (fs++[⟨some (nV md n0 k tS::List.range' lo n),true⟩])) h))))
  grind
theorem WE(hT:ql T aD call)(hI:wR P ty call yf T inl){Q:cp->cx->Prop}{md n0 k:Nat}{mU th:cx}{tE:cp}(qc:md<=2)(ho:ops[k]? =some o)(hw:dN ops tE o=some true)(mV:Nw ty md o tE th te tS){K:KO}(hK:∀te tS fs,K te tS fs->xk P ty aD call yf B ops Q md mU (k+1) te tS fs)
  (h:RM P ty tt T inl md n0 k o te tS fs K):xk P ty aD call yf B ops Q md mU k tE th fs:=by
 unfold RM at h;split at h;split at h;rename_i hq _ hn;exact aeP qc ho hw mV hK hn hq h
 grind
 split at h;rename_i t n c ha;obtain⟨i,rfl,hi⟩:=KZ _ _ h;have:=qo te t _ hi;rw[pJ (afQ ha)]at this;exact WG hT hI qc ho hw mV hK this;exact WG hT hI qc ho hw mV hK h
theorem VK(hT:ql T aD call)(hI:wR P ty call yf T inl){Q:cp->cx->Prop}{md n0 k:Nat}{mU:cx}(qc:md<=2)(ho:ops[k]? =some o)(hw:dN ops te o=some true){K:KO}(hK:∀te tS fs,K te tS fs->xk P ty aD call yf B ops Q md mU (k+1) te tS fs)
  (h:opK P ty tt T inl md n0 k o te tS fs K):xk P ty aD call yf B ops Q md mU k te tS fs:=by
 unfold opK at h;split at h;split at h;rename_i mh iq hp;exact WE hT hI qc ho hw hp hK (cD iq (K:=λtS=>RM P ty tt T inl 0 n0 k o mh tS fs K) (cC mh (K:=λte=>bP iq λtS=>RM P ty tt T inl 0 n0 k o te tS fs K) h))
 grind
 rename_i hno;refine WE hT hI qc ho hw ?_ hK h;rcases Po qc with rfl|rfl|rfl;show Nd ty te tS o=some (te,tS);unfold Nd;split
 grind
 rfl;exact⟨rfl,rfl⟩;exact⟨rfl,rfl⟩
theorem adi{b:Bool}(h:gdT ops te o=.no b):dN ops te o=some b:=by
 unfold gdT at h;unfold dN;split at h
 grind
 grind
theorem afz{d:Tmp}{b want:Bool}(h:gdT ops te o=.ask d b want):te[d]? =some (.val (.bool b))/\dN ops te o=some (match want with|true=>b|false=>!b):=by
 unfold gdT at h;unfold dN;split at h;cases h
 grind
theorem DM(hT:ql T aD call)(hI:wR P ty call yf T inl){Q:cp->cx->Prop}{md n0:Nat}{mU:cx}(qc:md<=2){K:KO}(hK:∀te tS fs,K te tS fs->xk P ty aD call yf B ops Q md mU ops.size te tS fs):
  ∀(r:List Oper)(k:Nat)(te:cp)(tS:cx)(fs:cY),ops.toList.drop k=r->qd P ty tt T inl md n0 ops r k te tS fs K->xk P ty aD call yf B ops Q md mU k te tS fs
 |[],k,te,tS,fs,hr,h=>by
  have hk:ops.size<=k:=by have:=List.drop_eq_nil_iff.1 hr;simpa using this
  have h1:=hK te tS fs h;rcases Po qc with rfl|rfl|rfl;intro ι env S hR hB;have:=h1 ι env S hR hB;rw[hU ae]at this;rw[hU (by simpa using hk)];exact this
  intro e ι env S hR;have:=h1 e ι env S hR;rw[hU ae]at this;rw[hU (by simpa using hk)];exact this
  skip
  intro ι w env S n0 hR hB hw hn;have:=h1 ι w env S n0 hR hB hw (λj hj CM=>ab);rw[hU ae]at this;rw[hU (by simpa using hk)];obtain⟨aL,S',xe,ι',w',bS,bK,ft,e1,e2,e3,e4,e5,e6,e7,e8,e9⟩:=this;exact⟨aL,S',xe,ι',w',bS,bK,ft,e1,e2,λj _=>e3 j λi hi RA=>ab,e4,e5,e6,e7,⟨e8.1,λj _ hn=>e8.2 j (λi hi RA=>ab) hn⟩,e9⟩
 |o::r,k,te,tS,fs,hr,h=>by
  obtain⟨ho,F7⟩:=MF hr;have ih:∀te tS fs,qd P ty tt T inl md n0 ops r (k+1) te tS fs K->xk P ty aD call yf B ops Q md mU (k+1) te tS fs:=λte tS fs=>DM hT hI qc hK r (k+1) te tS fs F7.symm;simp only[qd]at h;split at h;rename_i hg;exact VK hT hI qc ho (adi hg) ih h;rename_i hg;exact IY qc ho (adi hg) ih h;rename_i d b want hg;obtain⟨h1,h2⟩:=afz hg;split at h;obtain⟨k1,k2⟩:=vJ h;cases b with
  |true=>have:=qo te d _ (k1 rfl);rw[pJ h1]at this;exact VK hT hI qc ho h2 ih this
  |false=>have:=qo te d _ (k2 rfl);rw[pJ h1]at this;exact IY qc ho h2 ih this
  obtain⟨k1,k2⟩:=vJ h;cases b with
  |true=>have:=qo te d _ (k1 rfl);rw[pJ h1]at this;exact IY qc ho h2 ih this
  |false=>have:=qo te d _ (k2 rfl);rw[pJ h1]at this;exact VK hT hI qc ho h2 ih this
  grind
end Go.Tv
