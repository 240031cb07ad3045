import Derived.Test.YtadeehilamokkaaGreatDoorPk05
import Derived.Test.YtadeehilamokkaaGreatDoorChecked
import Derived.KernelRfl
import Derived.Laws.BitsLemmas
import Derived.Laws.StructEq
namespace Go.Tv
open Go Go.Di Go.Proofs
abbrev nC:TT:=.int .i64
abbrev gd:TT:=.sl nC
abbrev eG:TT:=.pair gd (.pair gd (.pair nC (.pair gd .unit)))
abbrev VJ:TT:=.pair nC (.pair nC .unit)
abbrev JU:TT:=.pair nC (.pair nC (.pair nC .unit))
abbrev aeU:TT:=.pair .bool (.pair JU .unit)
abbrev agN:TT:=.pair gd (.pair gd (.pair nC (.pair gd (.pair gd (.pair gd (.pair gd (.pair gd (.pair gd (.pair gd (.pair gd (.pair gd .unit)))))))))))
def ttL:List (Nat×TT):=[(3,nC),(4,.bool),(29,nC),(23,gd),(42,eG),(22,.sl eG),(51,VJ),(84,.int .u64),(79,JU),(56,.sl JU),(70,JU),(65,.sl JU),(46,.sl gd),(9,.str),(177,aeU),(174,aeU),(175,.sl .bool),(126,.sl agN)]
def XZ(t:TypeId):cy:=(ttL.find? λp=>p.1==t).map (·.2)
abbrev vv:=TV.val
abbrev vi:=Value.int IntKind.i64
abbrev vb:=Value.bool
abbrev s8(n:Int):TV:=.val (.int .i64 n)
abbrev zG(b:Bool):TV:=.val (.bool b)
noncomputable abbrev Tp:Program:=Tryz.prog
noncomputable abbrev Ty:fo:=TyH
def LL:Nat:=1001000
structure QJ (cE:bR):Prop where
 other:∀f a,f≠64->f≠124->f≠7->f≠10->f≠14->cE f a=none
 fit:cE 7 []=some (.val (.bool true))
section
variable (cE:bR) (n:Nat)
noncomputable abbrev Js:bR:=CX Tp Ty cE LL n
noncomputable abbrev Dm:aY:=Bg Tp Ty cE LL n
noncomputable abbrev yfT:di:=yfN Tp Ty cE LL n
end
theorem Da{n:Int}(h:-9223372036854775808<=n)(h':n<=9223372036854775807):IntKind.i64.wrap n=n:=by rw[IntKind.wrap_i64];omega
end Go.Tv
namespace Go.Tv
open Go Go.Di
def C9(aD:bR)(call:aY)(g:FuncId)(targs:cn)(Q:cn->Prop):Prop:=
 ∀bT S,cz gC S targs bT->(∀ds,cz gC [] targs ds->aD g ds=none)/\∃S' id ds ts,call g bT S=some (.ptr id 0,S')/\¬Lv S id/\S'[id]? =some (.cells ds)/\cz gC [] ts ds/\eL ts=[]/\(∀k',Lv S k'->S'[k']? =S[k']?)/\Nn S.length S S'/\Q ts
theorem C9.mono {aD:bR}{call:aY}{g:FuncId}{targs:cn}{Q Q':cn->Prop}(h:C9 aD call g targs Q)(hq:∀v,Q v->Q' v):C9 aD call g targs Q':=λbT S hd=>by obtain⟨h0,S',id,ds,ts,h1,h2,h3,h4,h5,h6,h7,h8⟩:=h bT S hd;exact⟨h0,S',id,ds,ts,h1,h2,h3,h4,h5,h6,h7,hq _ h8⟩
variable {P:Program} {ty:fo} {tt:TypeId->cy} {ι ι' w:kB} {S S':aj} {te lG:cn} {env:cj} {tS gZ:cp} {aD:bR} {call:aY} {yf:di} {o:Oper} {aB nT:Nat} {B:cx} {r:TR} {ops:Array Oper}
theorem N8{f:Operand}{args:Array Operand}{argTypes:Array TypeId}{g:FuncId}{fs cs xs targs:cn}{Q:cn->Prop}(hop:o.op=.call {callee:=.value f,args,argTypes})(hh:ty.h o≠1)(hf:fe te f=some (.fn g fs cs))(ha:kP te args.toList=some xs)(hp:(fs++xs++cs).all dY=true)
  (hn:bK (fJ tt fs argTypes) (fs++xs++cs)=targs) (hs:C9 aD call g targs Q):Does P ty aD call yf B o nT te tS false λv bO bI _=>∃ts,Q ts/\v=.ptr nT 0/\bO=te/\bI=nu tS nT (.cells ts):=by
 intro ι w env S aB hR hB hw hT CN hS;obtain⟨wm,iq,FC,k1,k2,k3⟩:=gY hR.env hf ha;obtain⟨k4,k5⟩:=jj (ts:=fJ tt fs argTypes) (ι':=gC) (S':=[]) hp k3;have k6:=kL (ts:=fJ tt fs argTypes) (ι':=gC) (S':=S) hp k3;rw[hn]at k5 k6;obtain⟨h0,S',id,ds,ts,m1,m2,m3,m4,m5,m6,m7,m8⟩:=hs _ S k6;have hne:∀{k k':Nat},ι k=some k'->k'≠id:=λhk e=>m2 (e▸hR.live hk);have xF:ι nT=none:=hR.new hT;have K:iQ ι S (upd ι nT id) S' λ_=>False:=λk k' _ hk=>by
  have h1:k≠nT:=by rintro rfl;rw[xF]at hk;cases hk
  exact⟨by simp only[upd,h1,if_false];exact hk,dm (m6 k' (hR.live hk))⟩
 refine⟨.ptr id 0,S',upd ι nT id,λj=>if j=id then some nT else w j,.ptr nT 0,te,nu tS nT (.cells ts),⟨none,true⟩,⟨none,true⟩,λ_=>?_,λe=>ar,⟨λe=>e,λl hl=>aE⟩,λl m hl=>aE,?_,by simp[RT,upd],?_,?_,?_,iZ hB hT,⟨m7.1,λj hj dN=>m7.2 j (by have:=(aI.1 dN).1;omega) dN⟩,ts,m8,rfl,rfl,rfl⟩;simp only[ah,hop,k1,k2,vO,k4,if_true,h0 _ k5,m1];refine⟨bh K _ _ hR.env,λk l hk=>?_,λk e s hk t ht=>?_,λk k' hk=>?_,λi j k' hi hj=>?_,λk b hk t ht=>?_⟩;rw[cH hT]at hk;split at hk;rename_i e;subst e;cases hk;exact⟨id,ds,by simp[upd],m3,jd _ _ m5 m4⟩;rename_i e;obtain⟨k',hU,h1,h2,h3⟩:=hR.cells k l hk;exact⟨k',hU,by simp only[upd,e,if_false];exact h1,by rw[m6 k' (hR.live h1)];exact h2,bh K _ _ h3⟩;rw[cH hT]at hk;split at hk;cases hk;rename_i e';simp only[upd,e',if_false]at ht;obtain⟨n,h1⟩:=hR.own k e s hk t ht;exact⟨n,by rw[m6 t (hR.live ht)];exact h1⟩;rw[cH hT];split
 grind
 rename_i e;simp only[upd,e,if_false]at hk;exact hR.qc k k' hk;unfold upd at hi hj;split at hi<;>split at hj;omega
 grind
 grind
 exact hR.inj i j k' hi hj;rw[cH hT]at hk;split at hk;cases hk;trivial
 rename_i e';simp only[upd,e',if_false]at ht;rw[m6 t (hR.live ht)];exact hR.mp k b hk t ht
 intro a b o7;unfold upd at o7;split at o7
 grind
 simp only[hne o7,if_false];exact hw _ _ o7
 grind
 refine⟨λk' hl _=>m6 k' hl,λk k' hk=>?_,λk hk=>?_⟩;unfold upd at hk;split at hk
 grind
 grind
 have:=mC hB hT;unfold upd;rw[if_neg (λe:k=nT=>this (e▸hk))]
def acY(ty:fo)(rs:List ResultVar)(ni:List cy)(Q:cn->Prop)(e:DX)(te:cn)(tS:cp):Prop:=
 (match e with|.exit _=>False|_=>True)/\∃ts,wB ty te tS rs=some [.ptr 0 0]/\tS[0]? =some (.cells ts)/\ts.all dY=true/\eL (bK ni ts)=[]/\Q (bK ni ts)
theorem Xd{cE:bR}{L n:Nat}{f:FuncId}{fn:Func}{c:Code}{targs:cn}{ni:List cy}{Q:cn->Prop}(hf:P.funcs[f]? =some fn)(hb:fn.body=some c)(ht:∀a,cE f a=none)
  (h:WT P ty (CX P ty cE L n) (Bg P ty cE L n) (yfN P ty cE L n) [] L f false c (targs++List.replicate (fn.ntmps-targs.length) .unk) [] (acY ty fn.results.toList ni Q)):C9 (CX P ty cE L (n+1)) (Bg P ty cE L (n+1)) f targs Q:=by
 have key:∀bT S,cz gC S targs bT->∃S' id ds ts,(dU P ty cE L (n+1)).1 f bT S=some (.ptr id 0,S')/\¬Lv S id/\S'[id]? =some (.cells ds)/\cz gC [] ts ds/\eL ts=[]/\(∀k',Lv S k'->S'[k']? =S[k']?)/\Nn S.length S S'/\Q ts:=by
  intro bT S hd;have hlen:=gR hd;have hR:bL gC (targs++List.replicate (fn.ntmps-targs.length) .unk) [] (bT++List.replicate (fn.ntmps-bT.length) bD) S:=by refine⟨eH hd (by rw[hlen];exact x6 _ _),λk l hk=>(by simp at hk),λk e s hk=>(by simp at hk),λk k' hk=>(by cases hk),λi j k' hi=>(by cases hi),λk b hk=>(by simp at hk)⟩
  obtain⟨e,aK,S',ι',bO,bI,h1,h2,h3,h4,h5,h6⟩:=h gC _ S hR (λk hk=>(by cases hk));obtain⟨h6,ts,h7,h8,h9,vE,FJ⟩:=h6;obtain⟨ds,k1,k2⟩:=x7 h2 h7;obtain⟨d,m',rfl,k3,k4⟩:=ax k2;rw[aN k4]at k1;cases d<;>simp only[RT]at k3;rename_i id off;obtain⟨k3,rfl⟩:=k3;obtain⟨iz,hU,m1,m2,m3⟩:=h2.cells 0 ts h8;rw[k3]at m1;cases m1;refine⟨S',id,hU,bK ni ts,?_,?_,m2,kL h9 m3,vE,λk' hl=>h4.rest k' hl (λk hk=>by cases hk),h5,FJ⟩;simp only[dU,hf,vP,hb];have Mh:cD P ty (lK cE (dU P ty cE L n).1) (dU P ty cE L n).1 (dU P ty cE L n).2 L f false c (bT++List.replicate (fn.ntmps-bT.length) bD) S=some (e,aK,S'):=h1;rw[Mh];cases e with
  |normal=>simp only[k1,az,oneOf]
  |ret=>simp only[k1,az,oneOf]
  |exit id=>exact h6.elim
  rcases h4.ours 0 id k3 with ⟨j,hj⟩|hl;cases hj;exact hl
 intro bT S hd;refine⟨λds hds=>?_,key bT S hd⟩;obtain⟨S',id,hU,ts,k1,-⟩:=key ds [] hds;simp only[CX,lK,ht,tf,HH,sK,sS,iD,xG,k1,DV.strip,DV.cT,DV.pure,DV.jJ,aJ,if_false]
end Go.Tv
namespace Go.Tv
open Go Go.Di Go.Proofs
variable {P:Program}
theorem ek{α β:Type}(s:Sem α)(f:α->Sem β):cC P (s>>=f)=(cC P s).bind λa=>cC P (f a):=by
 change cC P (s.bind f)=_;cases s with
 |pure a=>rfl
 |program k=>
  simp only[Sem.bind,cC];generalize k P=s';induction s' with
  |pure a=>rfl
  |program k ih=>simp only[Sem.bind,cC];exact ih P
  |_=>simp only[Sem.bind,cC,Option.bind_none]
 |_=>simp only[Sem.bind,cC,Option.bind_none]
theorem wV{α:Type}(a:α):cC P (pure a:Sem α)=some a:=rfl
theorem mL:cC P program=some P:=rfl
theorem mj{t:TypeId}{d:TypeDesc}(h:P.underlying t=some d):cC P (underlying t)=some d:=by unfold underlying;rw[ek,mL];simp only[cF,h];rfl
theorem Rx(d:Nat)(t:TypeId)(k k':IntKind)(a b:Int)(h:P.underlying t=some (.int k')):cC P (Op.equalIn (d+1) t (.int k a) (.int k b))=some (a==b):=by simp only[Op.equalIn,ek,mj h,cF,if_true];rfl
theorem Rw{α:Type}{c:Prop}[Decidable c]{a b:Sem α}:cC P (if c then a else b)=if c then cC P a else cC P b:=by split<;>rfl
theorem sr(d:Nat)(t:TypeId)(xs ys:Array Value)(ht:P.underlying t=some (.struct (P.fieldsOf t)))(hp:P.stoodInHeld t=false):
  cC P (Op.equalIn (d+1) t (.agg xs) (.agg ys))=cC P (Op.eqFields d xs ys (P.fieldsOf t).toList):=by
 simp only[Op.equalIn,ek,mj ht,cF,mL,hp,aJ,if_false];rw[<-Array.forIn_toList];generalize(P.fieldsOf t).toList=fs;clear ht;induction fs with
 |nil=>rfl
 |cons f fs ih=>
  simp only[List.forIn_cons,Op.eqFields,ek,Rw];split;generalize cC P (part f.type xs f.offset)=r1;cases r1 with
  |none=>rfl
  |some a=>
   generalize cC P (part f.type ys f.offset)=r2;cases r2 with
   |none=>rfl
   |some b=>
    simp only[cF];generalize cC P (Op.equalIn d f.type a b)=r3;cases r3 with
    |none=>rfl
    |some r=>cases r;simp only[cF,CH,if_true,wV];simp only[cF,fN,aJ,if_false,wV];exact ih
  simp only[wV,cF];exact ih
theorem aaG{d:Nat}{xs ys:Array Value}:cC P (Op.eqFields d xs ys [])=some true:=rfl
theorem aaN{t:TypeId}{xs ys:Array Value}{b:Bool}(ht:P.underlying t=some (.struct (P.fieldsOf t)))(hp:P.stoodInHeld t=false)(hm:P.eqGuardType P.depth t=false)(hf:cC P (Op.eqFields 9999 xs ys (P.fieldsOf t).toList)=some b)(x y:Operand):
  gM P (do eqGuard .neq t x y (.agg xs) (.agg ys);binOp .neq t (.agg xs) (.agg ys))=some (.val (.bool !b)):=by
 have h1:cC P (eqGuard .neq t x y (.agg xs) (.agg ys))=some ():=by simp only[eqGuard];simp only[fN,aJ,if_false,ek,mL,cF,hm,CH,if_true];rfl
 have h2:cC P (binOp .neq t (.agg xs) (.agg ys))=some (.bool !b):=by simp only[binOp,ek,Op.equal,Op.maxDepth,sr 9999 t xs ys ht hp,hf,cF];rfl
 rw[gM,ek,h1,cF,h2];rfl
variable {ty:fo} {tt:TypeId->cy} {ι ι' w:kB} {S S':aj} {te lG:cn} {env:cj} {tS gZ:cp} {aD:bR} {call:aY} {yf:di} {o:Oper} {aB nT:Nat} {B:cx} {ops:Array Oper}
end Go.Tv
namespace Go.Tv
open Go Go.Di Go.Proofs
def Zh:(t:TT)->DecidableEq t.den
 |.int _=>inferInstanceAs (DecidableEq Int)
 |.bool=>inferInstanceAs (DecidableEq Bool)
 |.str=>inferInstanceAs (DecidableEq ByteArray)
 |.unit=>inferInstanceAs (DecidableEq Unit)
 |.pair a b=>λx y=>@instDecidableEqProd _ _ (Zh a) (Zh b) x y
 |.sl t=>λx y=>@instDecidableEqList _ (Zh t) x y
def T5(t:TT)(x:t.den)(l:List t.den):Bool:=l.any λy=>@decide (x=y) (Zh t x y)
def ach(t:TT)(x:t.den)(l:List t.den):List t.den:=bif T5 t x l then l else l++[x]
structure abU (P:Program) (t:TypeId) (kt:TT):Prop where
 look:∀(x:kt.den)(l:List kt.den),cC P (Ox t ((B1 kt l).map Di.X0) (Jr kt x) false)=some (.bool (T5 kt x l))
 find:∀(x:kt.den)(l:List kt.den),∃r,cC P (OI t ((B1 kt l).map Di.X0) (Jr kt x))=some r/\TY (B1 kt l) (Jr kt x) (.bool true) r=some (B1 kt (ach kt x l))
def YZ(kt:TT)(v:TV):Option kt.den:=
 match v with
 |.agg l=>match ia l,kt.of l with
  |some vs,some (x,[])=>if vs.length=(FL kt x).length then some x else none
  |_,_=>none
 |_=>none
def acf(P:Program)(tt:TypeId->cy)(te:cn)(tS:cp)(o:Oper)(nT:Nat):Option (TV×cp×Prop):=
 match o.op with
 |.makeMap t none=>match tt t with
  |some kt=>some (.mp nT,nu tS nT (.map kt []),True)
  |none=>none
 |.lookup t m k false=>match fe te m,fe te k with
  |some (.mp id),some v=>match tS[id]? with
   |some (.map kt l)=>match YZ kt v with
    |some x=>some (.val (.bool (T5 kt x l)),tS,abU P t kt)
    |none=>none
   |_=>none
  |_,_=>none
 |.mapUpdate t m k y=>match fe te m,fe te k,fe te y with
  |some (.mp id),some v,some (.val (.bool true))=>match tS[id]? with
   |some (.map kt l)=>match YZ kt v with
    |some x=>some (.unk,tS.set id (.map kt (ach kt x l)),abU P t kt)
    |none=>none
   |_=>none
  |_,_,_=>none
 |_=>none
theorem Iv:∀{t:TT}{l:cn}{x:t.den}{r:cn}{vs:List Value},t.of l=some (x,r)->ia l=some vs->∃Yk,ia r=some Yk/\vs=FL t x++Yk
 |.int k,l,x,r,vs,h,hv=>by simp only[TT.of]at h;unfold ofInt at h;split at h;split at h;rename_i hk;subst hk;cases h;simp only[ia,af]at hv;obtain⟨Yk,h1,rfl⟩:=hv;exact⟨Yk,h1,rfl⟩;cases h;cases h
 |.bool,l,x,r,vs,h,hv=>by simp only[TT.of]at h;unfold ofBool at h;split at h;cases h;simp only[ia,af]at hv;obtain⟨Yk,h1,rfl⟩:=hv;exact⟨Yk,h1,rfl⟩;cases h
 |.str,l,x,r,vs,h,hv=>by simp only[TT.of]at h;unfold ofStr at h;split at h;cases h;simp only[ia,af]at hv;obtain⟨Yk,h1,rfl⟩:=hv;exact⟨Yk,h1,rfl⟩;cases h
 |.unit,l,x,r,vs,h,hv=>by simp only[TT.of]at h;cases h;exact⟨vs,hv,rfl⟩
 |.sl t,l,x,r,vs,h,hv=>by simp only[TT.of]at h;unfold YX at h;split at h;simp[ia]at hv;simp[ia]at hv;cases h
 |.pair a b,l,x,r,vs,h,hv=>by simp only[TT.of]at h;split at h;rename_i y m h1;split at h;rename_i z m' h2;cases h;obtain⟨vs1,k1,rfl⟩:=Iv h1 hv;obtain⟨vs2,k2,rfl⟩:=Iv h2 k1;exact⟨vs2,k2,by simp[FL]⟩;cases h;cases h
theorem PL{kt:TT}{v:TV}{x:kt.den}(h:YZ kt v=some x):gP v=some (Jr kt x):=by unfold YZ at h;split at h;split at h;rename_i vs y h1 h2;split at h;cases h;obtain⟨Yk,k1,rfl⟩:=Iv h2 h1;cases k1;simp only[gP,h1,az,Jr,iJ];cases h;cases h;cases h
section
variable (P:Program)
def Zg(t:TypeId)(a b:Value):Option Bool:=
 match a,b,P.underlying t with
 |.int k a,.int k' b,some (.int _)=>if k'=k then some (a==b)else none
 |.bool a,.bool b,some .bool=>some (a==b)
 |_,_,_=>none
def JN(E:TypeId->Value->Value->Option Bool)(xs ys:Array Value):List Field->Option Bool
 |[]=>some true
 |f::fs=>match f.name !="_",cC P (part f.type xs f.offset),cC P (part f.type ys f.offset)with
  |true,some a,some b=>match E f.type a b,JN E xs ys fs with
   |some u,some r=>some (u&&r)
   |_,_=>none
  |_,_,_=>none
def eqV:Nat->TypeId->Value->Value->Option Bool
 |0,t,a,b=>Zg P t a b
 |n+1,t,a,b=>match a,b with
  |.agg xs,.agg ys=>match P.underlying t,P.stoodInHeld t with
   |some (.struct fs),false=>JN P (eqV n) xs ys fs.toList
   |_,_=>none
  |a,b=>Zg P t a b
end
section
variable {P:Program}
theorem si{t:TypeId}{fs:Array Field}(h:P.underlying t=some (.struct fs)):P.underlying t=some (.struct (P.fieldsOf t)):=by
 have:P.fieldsOf t=fs:=by simp only[Program.fieldsOf,h]
 rw[this];exact h
theorem P4{d:Nat}{t:TypeId}{a b:Value}{r:Bool}(h:Zg P t a b=some r):cC P (Op.equalIn (d+1) t a b)=some r:=by unfold Zg at h;split at h;rename_i k a k' b k2 hu;split at h;rename_i hk;subst hk;cases h;exact Rx d t _ _ a b hu;cases h;rename_i a b hu;cases h;simp only[Op.equalIn,ek,mj hu,cF];rfl;cases h
theorem D7{E:TypeId->Value->Value->Option Bool}{d:Nat}(hE:∀t a b r,E t a b=some r->cC P (Op.equalIn d t a b)=some r){xs ys:Array Value}:∀{fs:List Field}{b:Bool},JN P E xs ys fs=some b->cC P (Op.eqFields d xs ys fs)=some b
 |[],_,h=>by cases h;exact aaG
 |f::fs,b,h=>by
  unfold JN at h;split at h;rename_i a b' hn ha hb;split at h;rename_i u r h1 h2;cases h;have Jc:f.name≠"_":=by simpa using hn
  simp only[Op.eqFields,Jc,ne_eq,not_false_eq_true,if_true,ek,ha,hb,cF,hE _ _ _ _ h1];cases u;rfl;simp only[fN,aJ,if_false,Bool.true_and];exact D7 hE h2
  cases h;cases h
theorem VD:∀{n d:Nat}{t:TypeId}{a b:Value}{r:Bool},n<d->eqV P n t a b=some r->cC P (Op.equalIn d t a b)=some r
 |0,0,_,_,_,_,hd,_=>U
 |0,d+1,_,_,_,_,_,h=>P4 h
 |n+1,0,_,_,_,_,hd,_=>U
 |n+1,d+1,t,a,b,r,hd,h=>by unfold eqV at h;split at h;rename_i xs ys;split at h;rename_i fs h1 h2;rw[sr d t xs ys (si h1) h2];simp only[Program.fieldsOf,h1];exact D7 (λt a b r h=>VD U h) h;cases h;exact P4 h
end
variable {P:Program} {ty:fo} {tt:TypeId->cy} {ι ι' w:kB} {S S':aj} {te lG:cn} {env:cj} {tS gZ:cp} {aD:bR} {call:aY} {yf:di} {o:Oper} {aB nT:Nat} {B:cx} {ops:Array Oper}
theorem Lx(h:bL ι te tS env S)(hT:wG tS nT)(hn:xK S aB)(kt:TT):bL (upd ι nT aB) te (nu tS nT (.map kt [])) env (eE S aB (.map [])):=by
 have K:=qS h hT hn (.map []);refine⟨bh K _ _ h.env,λk l hk=>?_,λk e s hk t ht=>?_,λk k' hk=>?_,λi j k' hi hj=>?_,λk b hk t ht=>?_⟩;rw[cH hT]at hk;split at hk;cases hk;rename_i e;obtain⟨k',hU,h1,h2,h3⟩:=h.cells k l hk;exact⟨k',hU,by simp only[upd,e,if_false];exact h1,by rw[bC hn,if_neg (h.dx hn h1)];exact h2,bh K _ _ h3⟩;rw[cH hT]at hk;split at hk;cases hk;rename_i e';simp only[upd,e',if_false]at ht;obtain⟨n,h1⟩:=h.own k e s hk t ht;exact⟨n,by rw[bC hn,if_neg (h.dx hn ht)];exact h1⟩;rw[cH hT];split
 grind
 rename_i e;simp only[upd,e,if_false]at hk;exact h.qc k k' hk;unfold upd at hi hj;split at hi<;>split at hj;omega;cases hi;exact(h.dx hn hj rfl).elim
 cases hj;exact(h.dx hn hi rfl).elim
 exact h.inj i j k' hi hj;rw[cH hT]at hk;split at hk;rename_i e';cases hk;simp only[upd,e',if_true,aF]at ht;subst ht;rw[bC hn,if_pos rfl];exact rfl
 rename_i e';simp only[upd,e',if_false]at ht;rw[bC hn,if_neg (h.dx hn ht)];exact h.mp k b hk t ht
theorem Lu(h:bL ι te tS env S){id iz:Nat}{kt:TT}{l l':List kt.den}(hi:ι id=some iz)(hl:tS[id]? =some (.map kt l)):bL ι te (tS.set id (.map kt l')) env (S.set iz (.map (B1 kt l'))):=by
 have hS:S[iz]? =some (.map (B1 kt l)):=h.mp id _ hl iz hi;have hlt:=(aI.1 hl).1;have BW:=(aI.1 hS).1;have K:iQ ι S ι (S.set iz (.map (B1 kt l'))) λ_=>False:=λa b _ o7=>⟨o7,by
  rw[aM];split;rename_i e1;subst e1;exact uN (by rw[hS];simp) (by rw[hS];simp) (by rw[hS];simp)
  exact dm rfl⟩
 have hg:∀j,(tS.set id (.map kt l'))[j]? =if j=id then some (.map kt l')else tS[j]? :=λj=>by
  rw[aM];by_cases e:j=id
  grind
  grind
 have q9:∀j,j≠iz->(S.set iz (.map (B1 kt l')))[j]? =S[j]? :=λj hj=>by rw[aM,if_neg (Ne.symm hj)]
 refine⟨bh K _ _ h.env,λj m hj=>?_,λj e s hj t ht=>?_,λj j' hj=>?_,h.inj,λj b hj t ht=>?_⟩;rw[hg]at hj;split at hj;cases hj;rename_i e;obtain⟨j',Mi,h1,h2,h3⟩:=h.cells j m hj;exact⟨j',Mi,h1,by rw[q9 j' λe1=>e (h.inj _ _ _ (e1▸h1) hi)];exact h2,bh K _ _ h3⟩;rw[hg]at hj;split at hj;cases hj;obtain⟨n,h1⟩:=h.own j e s hj t ht;exact⟨n,(K j t (λe=>e) ht).2.1 _ _ _ h1⟩;rw[hg];split
 grind
 exact h.qc j j' hj;rw[hg]at hj;split at hj;rename_i e;subst e;cases hj;rw[hi]at ht;cases ht;rw[aM,if_pos rfl,if_pos BW];exact rfl
 rename_i e;rw[q9 t λe1=>e (h.inj _ _ _ (e1▸ht) hi)];exact h.mp j b hj t ht
theorem aaU{id:Nat}{kt:TT}{l l':List kt.den}(hB:nM B tS)(hl:tS[id]? =some (.map kt l)):nM B (tS.set id (.map kt l')):=λk hk=>by obtain⟨c,hc⟩:=hB k hk;refine⟨c,?_⟩;rw[aM,if_neg];exact hc;rintro rfl;rw[hl]at hc;cases c<;>cases hc
theorem XH{v:TV}{gZ:cp}{c:Prop}(h:acf P tt te tS o nT=some (v,gZ,c))(hc:c):Does P ty aD call yf B o nT te tS false λv' bO bI _=>v'=v/\bO=te/\bI=gZ:=by intro ι w env S aB hR hB hw hT hn hS;unfold acf at h;split at h;rename_i t ho;split at h;rename_i kt ht;cases h;refine⟨.map aB,eE S aB (.map []),upd ι nT aB,upd w aB nT,.mp nT,te,_,⟨none,true⟩,⟨none,true⟩,λ_=>?_,λhd=>bc,⟨λe=>e,λl hl=>aE⟩,λl m hl=>aE,Lx hR hT hn kt,?_,pK hR hn hT hw,λhd=>bc,rC hn (mC hB hT),iZ hB hT,nQ hn,rfl,rfl,rfl⟩;simp only[ah,ho];simp[RT,upd];cases h;rename_i t m k ho;split at h;rename_i id u h1 h2;split at h;rename_i kt l h3;split at h;rename_i x h4;cases h;obtain⟨d,k1,k2⟩:=bt hR.env h1;cases d<;>simp only[RT]at k2;rename_i iz;have k3:S[iz]? =some (.map (B1 kt l)):=hR.mp id _ h3 iz k2;have k4:valOf (iN env) k=some (Jr kt x):=dW hR.env (by rw[h2];exact PL h4);refine⟨.val (.bool (T5 kt x l)),S,ι,w,.val (.bool (T5 kt x l)),te,tS,⟨none,true⟩,⟨none,true⟩,λ_=>?_,λhd=>bc,⟨λe=>e,λl hl=>aE⟩,λl m hl=>aE,hR,by simp only[RT],hw,λhd=>bc,Fr.refl _ _ _,hB,fM _ _,rfl,rfl,rfl⟩;simp only[ah,ho,k1,k4,k3,hc.look x l,cF,JD,A7];rfl;cases h;cases h;cases h;rename_i t m k y ho;split at h;rename_i id u h1 h2 h5;split at h;rename_i kt l h3;split at h;rename_i x h4;cases h;obtain⟨d,k1,k2⟩:=bt hR.env h1;cases d<;>simp only[RT]at k2;rename_i iz;have k3:S[iz]? =some (.map (B1 kt l)):=hR.mp id _ h3 iz k2;have k4:valOf (iN env) k=some (Jr kt x):=dW hR.env (by rw[h2];exact PL h4);have k5:valOf (iN env) y=some (.bool true):=dW hR.env (by rw[h5];rfl);obtain⟨r,k6,k7⟩:=hc.find x l;refine⟨bD,S.set iz (.map (B1 kt (ach kt x l))),ι,w,.unk,te,_,⟨none,true⟩,⟨none,true⟩,λ_=>?_,λhd=>bc,⟨λe=>e,λl hl=>aE⟩,λl m hl=>aE,Lu hR k2 h3,by simp only[RT],hw,λhd=>bc,zY k2,aaU hB h3,zT k3 (λe=>ar),rfl,rfl,rfl⟩;simp only[ah,ho,k1,k4,k5,k3,k6,k7,az];cases h;cases h;cases h;cases h
end Go.Tv
namespace Go.Tv
open Go Go.Di Go.Proofs
def jQ(tS:cp)(g:Nat)(t:TT):Option (Nat×List t.den×Bool):=
 match tS[g]? with
 |some (.rows t' e l z)=>if h:t'=t then some (e,h▸l,z)else none
 |_=>none
theorem kH{tS:cp}{g:Nat}{t:TT}{e:Nat}{l:List t.den}{z:Bool}(h:jQ tS g t=some (e,l,z)):tS[g]? =some (.rows t e l z):=by
 unfold jQ at h;split at h
 grind
 cases h
section
variable (ty:fo) (tt:TypeId->cy)
def JC(te:cn)(tS:cp)(o:Oper):Option (TV×Nat×Prop):=
 match o.op with
 |.indexAddr t x i=>match ty t,fe te x,Hw te i with
  |some ⟨.slice _ s _ _,_,_⟩,some (.so g k),some n=>match jQ tS g k with
   |some (_,l,_)=>if k.size==s then some (.sp g k n.toNat 0,g,0<=n/\n<(l.length:Int))else none
   |none=>none
  |_,_,_=>none
 |.fieldAddr t x f=>match ty t,fe te x with
  |some ⟨.struct fs,_,_⟩,some (.sp g k i off)=>match fs[f]? with
   |some (o,s,_)=>if 0<s then some (.sp g k i (off+o),g,True)else none
   |none=>none
  |_,_=>none
 |.load t a=>match ty t,fe te a with
  |some d,some (.sp g k i off)=>match jQ tS g k with
   |some (_,l,_)=>(vG d.k.isAgg d.size (k.cells (l.getD i k.dft)) off).map λv=>(fA tt t v,g,True)
   |none=>none
  |_,_=>none
 |.call {callee:=.builtin .len,args,argTypes}=>match args.toList,argTypes.toList with
  |[x],[t]=>match ty t,fe te x with
   |some ⟨.slice _ _ _ _,_,_⟩,some (.so g k)=>match jQ tS g k with
    |some (_,l,_)=>some (.val (.int .i64 (l.length:Nat)),g,True)
    |none=>none
   |_,_=>none
  |_,_=>none
 |_=>none
def Uv(te:cn)(tS:cp)(o:Oper):Option (Nat×cp):=
 match o.op with
 |.store t a x=>match ty t,fe te a,(fe te x).map (fA tt t)with
  |some d,some (.sp g k i off),some v=>match jQ tS g k with
   |some (e,l,false)=>if v.Dl&&v.cells.length==d.size then match Mk (k.cells (l.getD i k.dft)) off v.cells with
     |some cs=>match k.of cs with
      |some (y,[])=>some (g,tS.set g (.rows k e (l.set i y) false))
      |_=>none
     |none=>none
    else none
   |_=>none
  |_,_,_=>none
 |_=>none
def UF:TV->Bool
 |.jo=>true
 |.sl _ [] .full=>true
 |_=>false
def Uu(te:cn)(tS:cp)(o:Oper)(nT:Nat):Option (TV×cn×cp×Prop):=
 match o.op with
 |.makeSlice t a b=>match ty t,Hw te a,Hw te b,tt t with
  |some ⟨.slice e s kN agg,_,_⟩,some n,some m,some (.sl k)=>match ty e with
   |some ⟨_,_,some z⟩=>match k.of (z.map sH)with
    |some (x,[])=>if decide (0<s)&&k.size==s&&k.agg==agg&&(agg||s==1)&&decide (kN<=100000)then
      some (.so nT k,te,nu tS nT (.rows k e (List.replicate n.toNat x) false),m=n/\0<=n/\n<=1000000000)else none
    |_=>none
   |_=>none
  |_,_,_,_=>none
 |.buildSlice t n ps=>match ty.h o with
  |1=>match ty t,zQ te ps.toList,tt t with
   |some ⟨.slice e s _ agg,_,_⟩,some l,some (.sl k)=>match ty e with
    |some ⟨_,_,some z⟩=>if decide (0<s)&&decide (n*s<=16777216)&&l.length==n&&z.length==s&&k.size==s&&k.agg==agg&&(agg||s==1)then
      (Dk k 0 l).map λw=>(.so nT k,te,nu tS nT (.rows k e w false),True)
     else none
    |_=>none
   |_,_,_=>none
  |_=>none
 |.call {callee:=.builtin .append,args,argTypes}=>match args.toList,argTypes.toList with
  |[x,y],[t,u]=>if t=u then match fe te x with
   |some (.so g k)=>match ty t,(fe te y).map (fA tt t)with
    |some ⟨.slice e s kN agg,_,_⟩,some (.sl k' m _)=>if h:k'=k then match jQ tS g k,ty e with
      |some (e',l,false),some ⟨_,_,some _⟩=>if e'==e&&k.size==s&&k.agg==agg&&decide (kN<=100000)then
       some (.so g k,oB g te,(tS.map (pn g)).set g (.rows k e (l++(h▸m)) false),l.length+m.length<=1000000000)else none
      |_,_=>none
     else none
    |_,_=>none
   |some v=>match ty.h o with
    |1=>match ty t,(fe te y).map (fA tt t)with
     |some ⟨.slice e s kN agg,_,_⟩,some (.sl k' (a::m) _)=>match ty e with
      |some ⟨_,_,some _⟩=>if UF v&&decide (0<s)&&k'.size==s&&k'.agg==agg&&(agg||s==1)&&decide (kN<=100000)then
       some (.so nT k',te,nu tS nT (.rows k' e (a::m) false),(a::m).length<=1000000000)else none
      |_=>none
     |_,_=>none
    |_=>none
   |none=>none
   else none
  |_,_=>none
 |_=>none
end
variable {P:Program} {ty:fo} {tt:TypeId->cy} {ι ι' w:kB} {S S':aj} {te lG:cn} {env:cj} {tS gZ:cp} {aD:bR} {call:aY} {yf:di} {o:Oper} {aB nT:Nat} {B:cx} {ops:Array Oper}
theorem xk{t:TT}:∀{l:List t.den}{ds:cj}{i:Nat},fC t l ds->i<l.length->∃pre c post,ds=pre++c++post/\pre.length=i*t.size/\CR t (l.getD i t.dft) c/\∀y c',CR t y c'->fC t (l.set i y) (pre++c'++post)
 |[],_,_,_,h=>by simp at h
 |x::l,ds,i,hf,h=>by
  simp only[fC]at hf;obtain⟨c,m,rfl,h1,h2⟩:=hf;cases i with
  |zero=>exact⟨[],c,m,rfl,ab,h1,λy c' hc=>by simp only[List.set_cons_zero,fC];exact⟨c',m,rfl,hc,h2⟩⟩
  |succ i=>obtain⟨pre,c1,post,rfl,k1,k2,k3⟩:=xk (i:=i) h2 (by simpa using h);refine⟨c++pre,c1,post,ab,by rw[dM,nB h1,k1,j7,Nat.one_mul,yl],by simpa using k2,λy c' hc=>?_⟩;simp only[List.set_cons_succ,fC];exact⟨c,pre++c'++post,ab,h1,k3 y c' hc⟩
theorem K1{t:TT}:∀{l m:List t.den}{ds es:cj},fC t l ds->fC t m es->fC t (l++m) (ds++es)
 |[],_,ds,_,h,k=>by simp only[fC]at h;subst h;exact k
 |x::l,m,ds,es,h,k=>by simp only[fC]at h;obtain⟨c,r,rfl,h1,h2⟩:=h;simp only[j9,fC];exact⟨c,r++es,ab,h1,K1 h2 k⟩
theorem D3{t:TT}{x:t.den}{c:cj}(h:CR t x c):∀n,fC t (List.replicate n x) (List.replicate n c).flatten
 |0=>by simp[fC]
 |n+1=>by simp only[CK,List.flatten_cons,fC];exact⟨c,_,rfl,h,D3 h n⟩
theorem sA{t:TT}{agg:Bool}:∀{l:List t.den}{rows:cj},dZ (CR t) agg l rows->fC t l (flat rows)
 |[],[],_=>by simp[flat,fC]
 |x::l,r::rows,h=>by simp only[flat,de,fC];exact⟨r.cells,_,rfl,h.1.1,sA h.2⟩
theorem vZ{t:TT}:∀{qs:List (Nat×DV)}{i:Nat}{l:List t.den},F1 t i qs l->fC t l (iW qs)
 |[],_,[],_=>by simp[iW,fC]
 |(j,d)::qs,i,x::l,h=>by obtain⟨⟨rfl,hc⟩,h⟩:=h;simp only[iW,de,fC];exact⟨d.strip.cells,_,rfl,hc,vZ h⟩
theorem Eb:∀{t:TT}{x:t.den}{c:cj},CR t x (c.map DV.aL)->c.all DV.bS=true->CR t x c
 |.int _,_,c,h,hp=>by simp only[CR]at h⊢;obtain⟨d,rfl⟩:∃d,c=[d]:=List.length_eq_one_iff.1 (by have:=congrArg List.length h;simpa using this);cases d<;>simp_all [DV.aL]
 |.bool,_,c,h,hp=>by simp only[CR]at h⊢;obtain⟨d,rfl⟩:∃d,c=[d]:=List.length_eq_one_iff.1 (by have:=congrArg List.length h;simpa using this);cases d<;>simp_all [DV.aL]
 |.str,_,c,h,hp=>by simp only[CR]at h⊢;obtain⟨d,rfl⟩:∃d,c=[d]:=List.length_eq_one_iff.1 (by have:=congrArg List.length h;simpa using this);cases d<;>simp_all [DV.aL]
 |.unit,_,c,h,_=>by simp only[CR]at h⊢;simpa using h
 |.pair a b,x,c,h,hp=>by simp only[CR]at h⊢;obtain⟨c1,c2,e,h1,h2⟩:=h;obtain⟨d1,d2,rfl,rfl,rfl⟩:=List.map_eq_append_iff.1 e;rw[pV,aC]at hp;exact⟨d1,d2,rfl,Eb h1 hp.1,Eb h2 hp.2⟩
 |.sl t,l,c,h,hp=>by
  simp only[CR]at h⊢;obtain⟨rows,f,e,h⟩:=h;obtain⟨d,rfl⟩:∃d,c=[d]:=List.length_eq_one_iff.1 (by have:=congrArg List.length e;simpa using this);cases d<;>simp[DV.aL]at e;rename_i r tok f';obtain⟨rfl,-⟩:=e;cases tok with
  |some=>simp[DV.bS]at hp
  |none=>exact⟨r,f',rfl,h⟩
theorem Fq(d:DV):d.aL.aL=d.aL:=by cases d<;>rfl
theorem IJ{v:TV}{d:DV}(hk:v.Dl=true)(h:RT ι S v d):d.strip.cells=d.cells.map DV.aL:=by cases v<;>cases d<;>simp only[RT]at h<;>first|(cases hk;done)|rfl
theorem RJ{agg:Bool}{n off:Nat}{pre c post:cj}{d:DV}(h:oF agg n c off=some d):oF agg n (pre++c++post) (pre.length+off)=some d:=by
 unfold oF at h⊢;cases agg with
 |true=>simp only[if_true,af]at h⊢;obtain⟨cs,h1,rfl⟩:=h;refine⟨cs,?_,rfl⟩;unfold Uh at h1⊢;split at h1;rename_i hle;cases h1;rw[if_pos (by simp;omega),rP,ym,jy U,gm,rR,List.drop_append_of_le_length U,List.take_append_of_le_length (by simp;omega)];cases h1
 |false=>grind
theorem WW{off:Nat}{pre c post cs c':cj}(h:vu c off cs=some c'):vu (pre++c++post) (pre.length+off) cs=some (pre++c'++post):=by
 unfold vu at h⊢;split at h;rename_i hle;cases h;have e1:(pre++c++post).take (pre.length+off)=pre++c.take off:=by rw[rP,List.take_append,List.take_of_length_le U,rR,List.take_append_of_le_length U]
 have e2:(pre++c++post).drop (pre.length+off+cs.length)=c.drop (off+cs.length)++post:=by rw[rP,fO,ym,jy U,gm,rR,List.drop_append_of_le_length U]
 rw[if_pos (by simp;omega),e1,e2];simp[rP];cases h
theorem aa7(h:bL ι te tS env S){g i off:Nat}{t:TT}{e:Nat}{l:List t.den}{z:Bool}{d:DV}(hg:tS[g]? =some (.rows t e l z))(hd:RT ι S (.sp g t i off) d):∃id ds,d=.fS id l.length (i*t.size+off)/\ι g=some id/\S[id]? =some (.op e t.size ds z)/\Cb S id l.length=some (e,t.size,ds,z)/\fC t l ds/\i<l.length/\0<t.size/\(t.agg||t.size==1)=true:=by
 cases d<;>simp only[RT]at hd;rename_i id n ry;obtain⟨h1,rfl,e',s',l',z',h2,h3,h4⟩:=hd;obtain⟨q0,q1,ds,q2,q3⟩:=h.mp g _ hg id h1;rw[h2]at q2;cases q2;have hl:=iu q3;have hn:n=l.length:=Nat.eq_of_mul_eq_mul_right q0 (h3.trans hl);subst hn;refine⟨id,l',rfl,h1,h2,?_,q3,?_,q0,q1⟩;unfold Cb;rw[h2];simp only[h3,if_true];rw[<-h3]at h4;have:i*t.size<l.length*t.size:=U
 exact Nat.lt_of_mul_lt_mul_right this
theorem EE{v:TV}{g:Nat}{c:Prop}(h:JC ty tt te tS o=some (v,g,c))(hc:c)(hR:bL ι te tS env S):∃d id,(∀aB,ah P ty aD call yf (iN env) o S aB=some (d,S))/\RT ι S v d/\ι g=some id/\((∃t a f,o.op=.fieldAddr t a f/\∃n off,iN env a=some (.fS id n off))\/(∃t a i,o.op=.indexAddr t a i/\∃n ag,iN env a=some (.jl id n ag))\/(∃t a,o.op=.load t a/\∃n off,iN env a=some (.fS id n off))\/∃args ats,o.op=.call {callee:=.builtin .len,args,argTypes:=ats}):=by
 unfold JC at h;split at h;rename_i t x i ho;split at h;rename_i e s kN agg sz z g' k n h1 h2 h3;split at h;rename_i e' l zz h4;split at h;rename_i h5;cases h;have hg:=kH h4;obtain⟨d,k1,k2⟩:=bt hR.env h2;obtain⟨id,ds,rfl,m1,m2,m3,m4,m5,m6⟩:=FO hR hg k2 rfl;have hs:k.size=s:=by simpa using h5
 have hl:=iu m4;have hi:intOf (iN env) i=some n:=pP hR.env h3;obtain⟨c1,c2⟩:=hc;refine⟨.fS id l.length (n.toNat*s),id,λaB=>?_,?_,m1,.inr (.inl ⟨t,x,i,ho,_,_,k1⟩)⟩;simp only[ah,ho,h1,k1,hi,m3];rw[if_pos ⟨c1,U,hs⟩];simp only[RT];refine⟨m1,by rw[hs];rfl,e',k.size,ds,zz,m2,hl.symm,?_⟩;rw[hl,<-mD];exact gp _ U;cases h;cases h;cases h;rename_i t x f ho;split at h;rename_i fs sz z g' k i off h1 h2;split at h;rename_i of s ag hf;split at h;rename_i hs;cases h;obtain⟨d,k1,k2⟩:=bt hR.env h2;cases d<;>simp only[RT]at k2;rename_i id n ry;obtain⟨m1,rfl,e',s',l',z',m2,m3,m4⟩:=k2;have hop:Cb S id n=some (e',s',l',z'):=by unfold Cb;rw[m2];simp only[m3,if_true]
 refine⟨.fS id n (i*k.size+off+of),id,λaB=>?_,?_,m1,.inl ⟨t,x,f,ho,_,_,k1⟩⟩;simp only[ah,ho,h1,k1,hf,hop,if_pos hs];simp only[RT];exact⟨m1,U,e',s',l',z',m2,m3,m4⟩;cases h;cases h;cases h;rename_i t a ho;split at h;rename_i td g' k i off h1 h2;split at h;rename_i e' l zz h4;simp only[af,ay]at h;obtain⟨u,h5,rfl,rfl,-⟩:=h;have hg:=kH h4;obtain⟨d,k1,k2⟩:=bt hR.env h2;obtain⟨id,ds,rfl,m1,m2,m3,m4,m5,m6,m7⟩:=aa7 hR hg k2;obtain⟨pre,c,post,rfl,q1,q2,-⟩:=xk m4 m5;obtain⟨d,q3,q4⟩:=qH (oT (ι:=ι) (S:=S) q2) h5;refine⟨d,id,λaB=>?_,cK q4,m1,.inr (.inr (.inl ⟨t,a,ho,_,_,k1⟩))⟩;simp only[ah,ho,k1,kC,h1,m3];rw[<-q1,RJ q3];rfl;cases h;cases h;rename_i args ats ho;split at h;rename_i x t ha ht;split at h;rename_i e s kN agg sz z g' k h1 h2;split at h;rename_i e' l zz h4;cases h;have hg:=kH h4;obtain⟨d,k1,k2⟩:=bt hR.env h2;obtain⟨id,ds,rfl,m1,m2,m3,m4,m5,m6⟩:=FO hR hg k2 rfl;refine⟨.val (.int .i64 (l.length:Nat)),id,λaB=>?_,by simp only[RT],m1,.inr (.inr (.inr ⟨_,_,ho⟩))⟩;simp only[ah,ho,ha,ht,h1,k1];cases h;cases h;cases h;cases h
theorem EP{v:TV}{g:Nat}{c:Prop}(h:JC ty tt te tS o=some (v,g,c))(hc:c)(dr:Bool):Does P ty aD call yf B o nT te tS dr λv' bO bI ft=>v'=v/\bO=te/\bI=tS/\ft=⟨some [g],false⟩:=by
 intro ι w env S aB hR hB hw hT hn hS;obtain⟨d,id,h1,h2,h3,h4⟩:=EE (P:=P) (aD:=aD) (call:=call) (yf:=yf) h hc hR;have hl:∃l,aH P ty aD call yf (iN env) o S aB=some (d,S,⟨some l,false⟩)/\∀j∈l,j=id:=by rcases h4 with ⟨t,a,f,ho,n,off,ha⟩|⟨t,a,i,ho,n,ag,ha⟩|⟨t,a,ho,n,off,ha⟩|⟨args,ats,ho⟩;exact⟨[id],by simp only[aH,ho,ha,h1,az],ab⟩;exact⟨[id],by simp only[aH,ho,ha,h1,az],ab⟩;exact⟨[id],by simp only[aH,ho,ha,h1,az],ab⟩;exact⟨[],by simp only[aH,ho,h1,az],ab⟩
 obtain⟨l,h5,h6⟩:=hl;refine⟨d,S,ι,w,v,te,tS,⟨some l,false⟩,⟨some [g],false⟩,λ_=>h1 aB,λ_=>h5,⟨λe=>e,λl' jm=>?_⟩,λl' m _ hm j hj=>?_,hR,h2,hw,λ_ _ _=>rfl,Fr.refl _ _ _,hB,fM _ _,rfl,rfl,rfl,rfl⟩;cases jm;exact⟨l,rfl,λj hj=>⟨g,ab,by rw[h6 j hj];exact hw _ _ h3⟩⟩
 grind
theorem VW{k:Nat}{v:TV}{g:Nat}{c:Prop}{Q:cn->Prop}(ho:ops[k]? =some o)(hw:dI ops te o=some true)(h:JC ty tt te tS o=some (v,g,c))(hc:c)(hq:WQ P ty aD call yf ops tS (k+1) (jI te o.dst v) Q):WQ P ty aD call yf ops tS k te Q:=by
 intro ι env S hR;obtain⟨d,id,h1,h2,h3,h4⟩:=EE (P:=P) (aD:=aD) (call:=call) (yf:=yf) h hc hR;obtain⟨aK,bO,n1,n2,n3⟩:=hq ι (jN env o.dst d) S (nO hR h2 _);refine⟨aK,bO,?_,n2,n3⟩;rw[nS ho];have hq:cV P ty aD call yf (iN env) o S=some d:=by rcases h4 with ⟨t,a,f,ho,n,off,ha⟩|⟨t,a,i,ho,n,ag,ha⟩|⟨t,a,ho,n,off,ha⟩|⟨args,ats,ho⟩<;>simp only[cV,ho,h1,az]
 simp only[qd,gW hR.env hw,if_true,hq,n1]
end Go.Tv
