import Derived.Test.YtedcgbkilmlbhaaPk01
import Derived.Test.YtedcgbkilmlbhaaProg
import Derived.Test.YtedcgbkilmlbhaaPk05
import Derived.Test.YtedcgbkilmlbhaaChecked
import Derived.KernelRfl
import Derived.Laws.BitsLemmas
import Derived.Laws.StructEq
namespace Go.Di
open Go Go.Proofs
def agx(d:Tmp)(t:TypeId):Nat:=if t==41 then(if d==31 then 3 else if d==27 then 3 else 0)else if t==28 then(if d==18 then 1 else if d==26 then 1 else if d==51 then 2 else 0)else 0
noncomputable abbrev TyH:fP:=⟨TS Try.prog,agx⟩
end Go.Di
namespace Go.Tv
open Go Go.Di Go.Proofs
abbrev cn:TT:=.int .i64
abbrev bH:TT:=.sl cn
abbrev aW:TT:=.pair bH (.pair bH (.pair cn (.pair bH .unit)))
abbrev V1:TT:=.pair cn (.pair cn .unit)
abbrev bV:TT:=.pair cn (.pair cn (.pair cn .unit))
abbrev cv:TT:=.pair .bool (.pair bV .unit)
abbrev rW:TT:=.pair bH (.pair bH (.pair cn (.pair bH (.pair bH (.pair bH (.pair bH (.pair bH (.pair bH (.pair bH (.pair bH (.pair bH .unit)))))))))))
def ttL:List (Nat×TT):=[(3,cn),(4,.bool),(30,cn),(22,bH),(26,aW),(28,.sl aW),(77,V1),(57,.int .u64),(56,bV),(33,.sl bV),(81,bV),(41,.sl bV),(44,.sl bH),(9,.str),(110,cv),(107,cv),(108,.sl .bool),(96,.sl rW)]
def Yf(t:TypeId):Option TT:=(ttL.find? λp=>p.1==t).map (·.2)
abbrev vv:=TV.val
abbrev vi:=Value.int IntKind.i64
abbrev vb:=Value.bool
abbrev bI(n:Int):TV:=.val (.int .i64 n)
abbrev nW(b:Bool):TV:=.val (.bool b)
noncomputable abbrev Tp:Program:=Try.prog
noncomputable abbrev Ty:fP:=TyH
def LL:Nat:=1001000
structure AH (bM:bS):Prop where
 other:∀f a,f≠33->f≠83->f≠13->f≠67->f≠0->bM f a=none
 fit:bM 13 []=some (.val (.bool true))
section
variable (bM:bS) (n:Nat)
noncomputable abbrev J6:bS:=CG Tp Ty bM LL n
noncomputable abbrev AZ:bt:=uG Tp Ty bM LL n
noncomputable abbrev yfT:ew:=yfN Tp Ty bM LL n
end
theorem DN{n:Int}(h:-9223372036854775808<=n)(h':n<=9223372036854775807):IntKind.i64.wrap n=n:=by rw[IntKind.wrap_i64];omega
end Go.Tv
namespace Go.Tv
open Go Go.Di
def DM(aI:bS)(call:bt)(g:FuncId)(targs:List TV)(Q:List TV->Prop):Prop:=
 ∀bR S,cQ gd S targs bR->(∀ds,cQ gd [] targs ds->aI g ds=none)/\∃S' id ds ts,call g bR S=some (.ptr id 0,S')/\¬Lv S id/\S'[id]? =some (.cells ds)/\cQ gd [] ts ds/\eH ts=[]/\(∀k',Lv S k'->S'[k']? =S[k']?)/\Nn S.length S S'/\Q ts
theorem DM.mono {aI:bS}{call:bt}{g:FuncId}{targs:List TV}{Q Q':List TV->Prop}(h:DM aI call g targs Q)(hq:∀v,Q v->Q' v):DM aI call g targs Q':=λbR S hd=>by obtain⟨h0,S',id,ds,ts,h1,h2,h3,h4,h5,h6,h7,h8⟩:=h bR S hd;exact⟨h0,S',id,ds,ts,h1,h2,h3,h4,h5,h6,h7,hq _ h8⟩
variable {P:Program} {ty:fP} {tt:TypeId->Option TT} {ι ι' w:lq} {S S':ai} {te mM:List TV} {env:List DV} {tS iT:List TB} {aI:bS} {call:bt} {yf:ew} {o:Oper} {aD nT:Nat} {B:List Nat} {r:TR} {ops:Array Oper}
theorem Ov{f:Operand}{args:Array Operand}{argTypes:Array TypeId}{g:FuncId}{fs cs xs targs:List TV}{Q:List TV->Prop}(hop:o.op=.call {callee:=.value f,args,argTypes})(hh:ty.h o≠1)(hf:fM te f=some (.fn g fs cs))(ha:lV te args.toList=some xs)(hp:(fs++xs++cs).all eG=true)
  (hn:bG (gm tt fs argTypes) (fs++xs++cs)=targs) (hs:DM aI call g targs Q):Does P ty aI call yf B o nT te tS false λv bZ bN _=>∃ts,Q ts/\v=.ptr nT 0/\bZ=te/\bN=pK tS nT (.cells ts):=by
 intro ι w env S aD hR hB hw hT Fu hS;obtain⟨xD,lG,FA,k1,k2,k3⟩:=iS hR.env hf ha;obtain⟨k4,k5⟩:=jU (ts:=gm tt fs argTypes) (ι':=gd) (S':=[]) hp k3;have k6:=lS (ts:=gm tt fs argTypes) (ι':=gd) (S':=S) hp k3;rw[hn]at k5 k6;obtain⟨h0,S',id,ds,ts,m1,m2,m3,m4,m5,m6,m7,m8⟩:=hs _ S k6;have hne:∀{k k':Nat},ι k=some k'->k'≠id:=λhk e=>m2 (e▸hR.live hk);have yG:ι nT=none:=hR.new hT;have K:jE ι S (upd ι nT id) S' λ_=>False:=λk k' _ hk=>by
  have h1:k≠nT:=by rintro rfl;rw[yG]at hk;cases hk
  exact⟨by simp only[upd,h1,if_false];exact hk,dY (m6 k' (hR.live hk))⟩
 refine⟨.ptr id 0,S',upd ι nT id,λj=>if j=id then some nT else w j,.ptr nT 0,te,pK tS nT (.cells ts),⟨none,true⟩,⟨none,true⟩,λ_=>?_,λe=>(by cases e),⟨λe=>e,λl hl=>(by cases hl)⟩,λl m hl=>(by cases hl),?_,by simp[RT,upd],?_,?_,?_,kS hB hT,⟨m7.1,λj hj dA=>m7.2 j (by have:=(az.1 dA).1;omega) dA⟩,ts,m8,rfl,rfl,rfl⟩;.simp only[ah,hop,k1,k2,xh,k4,if_true,h0 _ k5,m1]
 .refine⟨bu K _ _ hR.env,λk l hk=>?_,λk e s hk t ht=>?_,λk k' hk=>?_,λi j k' hi hj=>?_,λk b hk t ht=>?_⟩
  .rw[dc hT]at hk;split at hk;.rename_i e;subst e;cases hk;exact⟨id,ds,by simp[upd],m3,iR _ _ m5 m4⟩
   rename_i e;obtain⟨k',iJ,h1,h2,h3⟩:=hR.cells k l hk;exact⟨k',iJ,by simp only[upd,e,if_false];exact h1,by rw[m6 k' (hR.live h1)];exact h2,bu K _ _ h3⟩
  .rw[dc hT]at hk;split at hk;.cases hk
   rename_i e';simp only[upd,e',if_false]at ht;obtain⟨n,h1⟩:=hR.own k e s hk t ht;exact⟨n,by rw[m6 t (hR.live ht)];exact h1⟩
  .rw[dc hT];split;.exact⟨_,rfl,λe=>by cases e⟩
   rename_i e;simp only[upd,e,if_false]at hk;exact hR.qv k k' hk
  .unfold upd at hi hj;split at hi<;>split at hj;.omega
   .cases hi;exact(hne hj rfl).elim
   .cases hj;exact(hne hi rfl).elim
   exact hR.inj i j k' hi hj
  rw[dc hT]at hk;split at hk;.cases hk;trivial
  rename_i e';simp only[upd,e',if_false]at ht;rw[m6 t (hR.live ht)];exact hR.mp k b hk t ht
 .intro a b qC;unfold upd at qC;split at qC;.rename_i e;subst e;cases qC;simp
  simp only[hne qC,if_false];exact hw _ _ qC
 .intro e;cases e
 refine⟨λk' hl _=>m6 k' hl,λk k' hk=>?_,λk hk=>?_⟩
 .unfold upd at hk;split at hk;.cases hk;exact .inr m2
  exact .inl ⟨k,hk⟩
 have:=nJ hB hT;unfold upd;rw[if_neg (λe:k=nT=>this (e▸hk))]
def adA(ty:fP)(rs:List ResultVar)(om:List (Option TT))(Q:List TV->Prop)(e:DX)(te:List TV)(tS:List TB):Prop:=
 (match e with|.exit _=>False|_=>True)/\∃ts,xJ ty te tS rs=some [.ptr 0 0]/\tS[0]? =some (.cells ts)/\ts.all eG=true/\eH (bG om ts)=[]/\Q (bG om ts)
theorem Xs{bM:bS}{L n:Nat}{f:FuncId}{fn:Func}{c:Code}{targs:List TV}{om:List (Option TT)}{Q:List TV->Prop}(hf:P.funcs[f]? =some fn)(hb:fn.body=some c)(ht:∀a,bM f a=none)
  (h:WT P ty (CG P ty bM L n) (uG P ty bM L n) (yfN P ty bM L n) [] L f false c (targs++List.replicate (fn.ntmps-targs.length) .unk) [] (adA ty fn.results.toList om Q)):DM (CG P ty bM L (n+1)) (uG P ty bM L (n+1)) f targs Q:=by
 have key:∀bR S,cQ gd S targs bR->∃S' id ds ts,(ej P ty bM L (n+1)).1 f bR S=some (.ptr id 0,S')/\¬Lv S id/\S'[id]? =some (.cells ds)/\cQ gd [] ts ds/\eH ts=[]/\(∀k',Lv S k'->S'[k']? =S[k']?)/\Nn S.length S S'/\Q ts:=by
  intro bR S hd;have hlen:=iq hd;have hR:bT gd (targs++List.replicate (fn.ntmps-targs.length) .unk) [] (bR++List.replicate (fn.ntmps-bR.length) bE) S:=by refine⟨eN hd (by rw[hlen];exact vF _ _),λk l hk=>(by simp at hk),λk e s hk=>(by simp at hk),λk k' hk=>(by cases hk),λi j k' hi=>(by cases hi),λk b hk=>(by simp at hk)⟩
  obtain⟨e,aK,S',ι',bZ,bN,h1,h2,h3,h4,h5,h6⟩:=h gd _ S hR (λk hk=>(by cases hk));obtain⟨h6,ts,h7,h8,h9,wO,HT⟩:=h6;obtain⟨ds,k1,k2⟩:=vI h2 h7;obtain⟨d,m',rfl,k3,k4⟩:=ak k2;rw[aP k4]at k1;cases d<;>simp only[RT]at k3;rename_i id off;obtain⟨k3,rfl⟩:=k3;obtain⟨jd,iJ,m1,m2,m3⟩:=h2.cells 0 ts h8;rw[k3]at m1;cases m1;refine⟨S',id,iJ,bG om ts,?_,?_,m2,lS h9 m3,wO,λk' hl=>h4.rest k' hl (λk hk=>by cases hk),h5,HT⟩
  .simp only[ej,hf,uH,hb];have HU:cW P ty (mc bM (ej P ty bM L n).1) (ej P ty bM L n).1 (ej P ty bM L n).2 L f false c (bR++List.replicate (fn.ntmps-bR.length) bE) S=some (e,aK,S'):=h1;rw[HU];cases e with
   |normal=>simp only[k1,av,oneOf]
   |ret=>simp only[k1,av,oneOf]
   |exit id=>exact h6.elim
  rcases h4.ours 0 id k3 with ⟨j,hj⟩|hl;.cases hj
  exact hl
 intro bR S hd;refine⟨λds hds=>?_,key bR S hd⟩;obtain⟨S',id,iJ,ts,k1,-⟩:=key ds [] hds;simp only[CG,mc,ht,uB,Ig,tO,uc,kO,yH,k1,DV.strip,DV.dF,DV.pure,DV.ko,aG,if_false]
end Go.Tv
namespace Go.Tv
open Go Go.Di Go.Proofs
variable {P:Program}
theorem cU{α β:Type}(s:Sem α)(f:α->Sem β):cu P (s>>=f)=(cu P s).bind λa=>cu P (f a):=by
 change cu P (s.bind f)=_;cases s with
 |pure a=>rfl
 |program k=>
  simp only[Sem.bind,cu];generalize k P=s';induction s' with
  |pure a=>rfl
  |program k ih=>simp only[Sem.bind,cu];exact ih P
  |_=>simp only[Sem.bind,cu,Option.bind_none]
 |_=>simp only[Sem.bind,cu,Option.bind_none]
theorem x9{α:Type}(a:α):cu P (pure a:Sem α)=some a:=rfl
theorem nQ:cu P program=some P:=rfl
theorem ga{t:TypeId}{d:TypeDesc}(h:P.underlying t=some d):cu P (underlying t)=some d:=by unfold underlying;rw[cU,nQ];simp only[cq,h];rfl
theorem RZ(d:Nat)(t:TypeId)(k k':IntKind)(a b:Int)(h:P.underlying t=some (.int k')):cu P (Op.equalIn (d+1) t (.int k a) (.int k b))=some (a==b):=by simp only[Op.equalIn,cU,ga h,cq,if_true];rfl
theorem RY{α:Type}{c:Prop}[Decidable c]{a b:Sem α}:cu P (if c then a else b)=if c then cu P a else cu P b:=by split<;>rfl
theorem tD(d:Nat)(t:TypeId)(xs ys:Array Value)(ht:P.underlying t=some (.struct (P.fieldsOf t)))(hp:P.stoodInHeld t=false):
  cu P (Op.equalIn (d+1) t (.agg xs) (.agg ys))=cu P (Op.eqFields d xs ys (P.fieldsOf t).toList):=by
 simp only[Op.equalIn,cU,ga ht,cq,nQ,hp,aG,if_false];rw[<-Array.forIn_toList];generalize(P.fieldsOf t).toList=fs;clear ht;induction fs with
 |nil=>rfl
 |cons f fs ih=>
  simp only[List.forIn_cons,Op.eqFields,cU,RY];split
  .generalize cu P (part f.type xs f.offset)=r1;cases r1 with
   |none=>rfl
   |some a=>
    generalize cu P (part f.type ys f.offset)=r2;cases r2 with
    |none=>rfl
    |some b=>
     simp only[cq];generalize cu P (Op.equalIn d f.type a b)=r3;cases r3 with
     |none=>rfl
     |some r=>
      cases r;.simp only[cq,vT,if_true,x9]
      simp only[cq,gr,aG,if_false,x9];exact ih
  simp only[x9,cq];exact ih
theorem aa1{d:Nat}{xs ys:Array Value}:cu P (Op.eqFields d xs ys [])=some true:=rfl
theorem aba{t:TypeId}{xs ys:Array Value}{b:Bool}(ht:P.underlying t=some (.struct (P.fieldsOf t)))(hp:P.stoodInHeld t=false)(hm:P.eqGuardType P.depth t=false)(hf:cu P (Op.eqFields 9999 xs ys (P.fieldsOf t).toList)=some b)(x y:Operand):
  jC P (do eqGuard .neq t x y (.agg xs) (.agg ys);binOp .neq t (.agg xs) (.agg ys))=some (.val (.bool !b)):=by
 have h1:cu P (eqGuard .neq t x y (.agg xs) (.agg ys))=some ():=by simp only[eqGuard];simp only[gr,aG,if_false,cU,nQ,cq,hm,vT,if_true];rfl
 have h2:cu P (binOp .neq t (.agg xs) (.agg ys))=some (.bool !b):=by simp only[binOp,cU,Op.equal,Op.maxDepth,tD 9999 t xs ys ht hp,hf,cq];rfl
 rw[jC,cU,h1,cq,h2];rfl
variable {ty:fP} {tt:TypeId->Option TT} {ι ι' w:lq} {S S':ai} {te mM:List TV} {env:List DV} {tS iT:List TB} {aI:bS} {call:bt} {yf:ew} {o:Oper} {aD nT:Nat} {B:List Nat} {ops:Array Oper}
end Go.Tv
namespace Go.Tv
open Go Go.Di Go.Proofs
def CM:(t:TT)->DecidableEq t.den
 |.int _=>inferInstanceAs (DecidableEq Int)
 |.bool=>inferInstanceAs (DecidableEq Bool)
 |.str=>inferInstanceAs (DecidableEq ByteArray)
 |.unit=>inferInstanceAs (DecidableEq Unit)
 |.pair a b=>λx y=>@instDecidableEqProd _ _ (CM a) (CM b) x y
 |.sl t=>λx y=>@instDecidableEqList _ (CM t) x y
def iG(t:TT)(x:t.den)(l:List t.den):Bool:=l.any λy=>@decide (x=y) (CM t x y)
def gb(t:TT)(x:t.den)(l:List t.den):List t.den:=bif iG t x l then l else l++[x]
structure xm (P:Program) (t:TypeId) (kt:TT):Prop where
 look:∀(x:kt.den)(l:List kt.den),cu P (Km t ((sR kt l).map Di.OD) (mQ kt x) false)=some (.bool (iG kt x l))
 find:∀(x:kt.den)(l:List kt.den),∃r,cu P (Ku t ((sR kt l).map Di.OD) (mQ kt x))=some r/\ML (sR kt l) (mQ kt x) (.bool true) r=some (sR kt (gb kt x l))
def Zd(kt:TT)(v:TV):Option kt.den:=
 match v with
 |.agg l=>match iY l,kt.of l with
  |some vs,some (x,[])=>if vs.length=(Gf kt x).length then some x else none
  |_,_=>none
 |_=>none
def acQ(P:Program)(tt:TypeId->Option TT)(te:List TV)(tS:List TB)(o:Oper)(nT:Nat):Option (TV×List TB×Prop):=
 match o.op with
 |.makeMap t none=>match tt t with
  |some kt=>some (.mp nT,pK tS nT (.map kt []),True)
  |none=>none
 |.lookup t m k false=>match fM te m,fM te k with
  |some (.mp id),some v=>match tS[id]? with
   |some (.map kt l)=>match Zd kt v with
    |some x=>some (.val (.bool (iG kt x l)),tS,xm P t kt)
    |none=>none
   |_=>none
  |_,_=>none
 |.mapUpdate t m k y=>match fM te m,fM te k,fM te y with
  |some (.mp id),some v,some (.val (.bool true))=>match tS[id]? with
   |some (.map kt l)=>match Zd kt v with
    |some x=>some (.unk,tS.set id (.map kt (gb kt x l)),xm P t kt)
    |none=>none
   |_=>none
  |_,_,_=>none
 |_=>none
theorem Jc:∀{t:TT}{l:List TV}{x:t.den}{r:List TV}{vs:List Value},t.of l=some (x,r)->iY l=some vs->∃SO,iY r=some SO/\vs=Gf t x++SO
 |.int k,l,x,r,vs,h,hv=>by
  simp only[TT.of]at h;unfold ofInt at h;split at h
  .split at h;.rename_i hk;subst hk;cases h;simp only[iY,af]at hv;obtain⟨SO,h1,rfl⟩:=hv;exact⟨SO,h1,rfl⟩
   cases h
  cases h
 |.bool,l,x,r,vs,h,hv=>by
  simp only[TT.of]at h;unfold ofBool at h;split at h;.cases h;simp only[iY,af]at hv;obtain⟨SO,h1,rfl⟩:=hv;exact⟨SO,h1,rfl⟩
  cases h
 |.str,l,x,r,vs,h,hv=>by
  simp only[TT.of]at h;unfold ofStr at h;split at h;.cases h;simp only[iY,af]at hv;obtain⟨SO,h1,rfl⟩:=hv;exact⟨SO,h1,rfl⟩
  cases h
 |.unit,l,x,r,vs,h,hv=>by simp only[TT.of]at h;cases h;exact⟨vs,hv,rfl⟩
 |.sl t,l,x,r,vs,h,hv=>by
  simp only[TT.of]at h;unfold Zb at h;split at h;.simp[iY]at hv
  .simp[iY]at hv
  cases h
 |.pair a b,l,x,r,vs,h,hv=>by
  simp only[TT.of]at h;split at h
  .rename_i y m h1;split at h;.rename_i z m' h2;cases h;obtain⟨vs1,k1,rfl⟩:=Jc h1 hv;obtain⟨vs2,k2,rfl⟩:=Jc h2 k1;exact⟨vs2,k2,by simp[Gf]⟩
   cases h
  cases h
theorem Qk{kt:TT}{v:TV}{x:kt.den}(h:Zd kt v=some x):iL v=some (mQ kt x):=by
 unfold Zd at h;split at h
 .split at h
  .rename_i vs y h1 h2;split at h;.cases h;obtain⟨SO,k1,rfl⟩:=Jc h2 h1;cases k1;simp only[iL,h1,av,mQ,cV]
   cases h
  cases h
 cases h
section
variable (P:Program)
def Zr(t:TypeId)(a b:Value):Option Bool:=
 match a,b,P.underlying t with
 |.int k a,.int k' b,some (.int _)=>if k'=k then some (a==b)else none
 |.bool a,.bool b,some .bool=>some (a==b)
 |_,_,_=>none
def Kw(E:TypeId->Value->Value->Option Bool)(xs ys:Array Value):List Field->Option Bool
 |[]=>some true
 |f::fs=>match f.name !="_",cu P (part f.type xs f.offset),cu P (part f.type ys f.offset)with
  |true,some a,some b=>match E f.type a b,Kw E xs ys fs with
   |some u,some r=>some (u&&r)
   |_,_=>none
  |_,_,_=>none
def eqV:Nat->TypeId->Value->Value->Option Bool
 |0,t,a,b=>Zr P t a b
 |n+1,t,a,b=>match a,b with
  |.agg xs,.agg ys=>match P.underlying t,P.stoodInHeld t with
   |some (.struct fs),false=>Kw P (eqV n) xs ys fs.toList
   |_,_=>none
  |a,b=>Zr P t a b
end
section
variable {P:Program}
theorem tC{t:TypeId}{fs:Array Field}(h:P.underlying t=some (.struct fs)):P.underlying t=some (.struct (P.fieldsOf t)):=by
 have:P.fieldsOf t=fs:=by simp only[Program.fieldsOf,h]
 rw[this];exact h
theorem Qx{d:Nat}{t:TypeId}{a b:Value}{r:Bool}(h:Zr P t a b=some r):cu P (Op.equalIn (d+1) t a b)=some r:=by
 unfold Zr at h;split at h
 .rename_i k a k' b k2 hu;split at h;.rename_i hk;subst hk;cases h;exact RZ d t _ _ a b hu
  cases h
 .rename_i a b hu;cases h;simp only[Op.equalIn,cU,ga hu,cq];rfl
 cases h
theorem ED{E:TypeId->Value->Value->Option Bool}{d:Nat}(hE:∀t a b r,E t a b=some r->cu P (Op.equalIn d t a b)=some r){xs ys:Array Value}:∀{fs:List Field}{b:Bool},Kw P E xs ys fs=some b->cu P (Op.eqFields d xs ys fs)=some b
 |[],_,h=>by cases h;exact aa1
 |f::fs,b,h=>by
  unfold Kw at h;split at h
  .rename_i a b' hn ha hb;split at h
   .rename_i u r h1 h2;cases h;have CA:f.name≠"_":=by simpa using hn
    simp only[Op.eqFields,CA,ne_eq,not_false_eq_true,if_true,cU,ha,hb,cq,hE _ _ _ _ h1];cases u;.rfl
    simp only[gr,aG,if_false,Bool.true_and];exact ED hE h2
   cases h
  cases h
theorem NG:∀{n d:Nat}{t:TypeId}{a b:Value}{r:Bool},n<d->eqV P n t a b=some r->cu P (Op.equalIn d t a b)=some r
 |0,0,_,_,_,_,hd,_=>by omega
 |0,d+1,_,_,_,_,_,h=>Qx h
 |n+1,0,_,_,_,_,hd,_=>by omega
 |n+1,d+1,t,a,b,r,hd,h=>by
  unfold eqV at h;split at h
  .rename_i xs ys;split at h;.rename_i fs h1 h2;rw[tD d t xs ys (tC h1) h2];simp only[Program.fieldsOf,h1];exact ED (λt a b r h=>NG (by omega) h) h
   cases h
  exact Qx h
end
variable {P:Program} {ty:fP} {tt:TypeId->Option TT} {ι ι' w:lq} {S S':ai} {te mM:List TV} {env:List DV} {tS iT:List TB} {aI:bS} {call:bt} {yf:ew} {o:Oper} {aD nT:Nat} {B:List Nat} {ops:Array Oper}
theorem Mg(h:bT ι te tS env S)(hT:AJ tS nT)(hn:AK S aD)(kt:TT):bT (upd ι nT aD) te (pK tS nT (.map kt [])) env (eW S aD (.map [])):=by
 have K:=wE h hT hn (.map []);refine⟨bu K _ _ h.env,λk l hk=>?_,λk e s hk t ht=>?_,λk k' hk=>?_,λi j k' hi hj=>?_,λk b hk t ht=>?_⟩
 .rw[dc hT]at hk;split at hk;.cases hk
  rename_i e;obtain⟨k',iJ,h1,h2,h3⟩:=h.cells k l hk;exact⟨k',iJ,by simp only[upd,e,if_false];exact h1,by rw[bF hn,if_neg (h.eA hn h1)];exact h2,bu K _ _ h3⟩
 .rw[dc hT]at hk;split at hk;.cases hk
  rename_i e';simp only[upd,e',if_false]at ht;obtain⟨n,h1⟩:=h.own k e s hk t ht;exact⟨n,by rw[bF hn,if_neg (h.eA hn ht)];exact h1⟩
 .rw[dc hT];split;.exact⟨_,rfl,λe=>by cases e⟩
  rename_i e;simp only[upd,e,if_false]at hk;exact h.qv k k' hk
 .unfold upd at hi hj;split at hi<;>split at hj;.omega
  .cases hi;exact(h.eA hn hj rfl).elim
  .cases hj;exact(h.eA hn hi rfl).elim
  exact h.inj i j k' hi hj
 rw[dc hT]at hk;split at hk;.rename_i e';cases hk;simp only[upd,e',if_true,aB]at ht;subst ht;rw[bF hn,if_pos rfl];exact rfl
 rename_i e';simp only[upd,e',if_false]at ht;rw[bF hn,if_neg (h.eA hn ht)];exact h.mp k b hk t ht
theorem Mf(h:bT ι te tS env S){id jd:Nat}{kt:TT}{l l':List kt.den}(hi:ι id=some jd)(hl:tS[id]? =some (.map kt l)):bT ι te (tS.set id (.map kt l')) env (S.set jd (.map (sR kt l'))):=by
 have hS:S[jd]? =some (.map (sR kt l)):=h.mp id _ hl jd hi;have hlt:=(az.1 hl).1;have CI:=(az.1 hS).1;have K:jE ι S ι (S.set jd (.map (sR kt l'))) λ_=>False:=λa b _ qC=>⟨qC,by
  rw[aF];split;.rename_i e1;subst e1;exact vO (by rw[hS];simp) (by rw[hS];simp) (by rw[hS];simp)
  exact dY rfl⟩
 have hg:∀j,(tS.set id (.map kt l'))[j]? =if j=id then some (.map kt l')else tS[j]? :=λj=>by
  rw[aF];by_cases e:j=id;.subst e;simp[hlt]
  rw[if_neg (Ne.symm e),if_neg e]
 have ou:∀j,j≠jd->(S.set jd (.map (sR kt l')))[j]? =S[j]? :=λj hj=>by rw[aF,if_neg (Ne.symm hj)]
 refine⟨bu K _ _ h.env,λj m hj=>?_,λj e s hj t ht=>?_,λj j' hj=>?_,h.inj,λj b hj t ht=>?_⟩
 .rw[hg]at hj;split at hj;.cases hj
  rename_i e;obtain⟨j',MK,h1,h2,h3⟩:=h.cells j m hj;exact⟨j',MK,h1,by rw[ou j' λe1=>e (h.inj _ _ _ (e1▸h1) hi)];exact h2,bu K _ _ h3⟩
 .rw[hg]at hj;split at hj;.cases hj
  obtain⟨n,h1⟩:=h.own j e s hj t ht;exact⟨n,(K j t (λe=>e) ht).2.1 _ _ _ h1⟩
 .rw[hg];split;.exact⟨_,rfl,by simp⟩
  exact h.qv j j' hj
 rw[hg]at hj;split at hj;.rename_i e;subst e;cases hj;rw[hi]at ht;cases ht;rw[aF,if_pos rfl,if_pos CI];exact rfl
 rename_i e;rw[ou t λe1=>e (h.inj _ _ _ (e1▸ht) hi)];exact h.mp j b hj t ht
theorem abj{id:Nat}{kt:TT}{l l':List kt.den}(hB:oK B tS)(hl:tS[id]? =some (.map kt l)):oK B (tS.set id (.map kt l')):=λk hk=>by
 obtain⟨c,hc⟩:=hB k hk;refine⟨c,?_⟩;rw[aF,if_neg];.exact hc
 rintro rfl;rw[hl]at hc;cases c<;>cases hc
theorem XZ{v:TV}{iT:List TB}{c:Prop}(h:acQ P tt te tS o nT=some (v,iT,c))(hc:c):Does P ty aI call yf B o nT te tS false λv' bZ bN _=>v'=v/\bZ=te/\bN=iT:=by
 intro ι w env S aD hR hB hw hT hn hS;unfold acQ at h;split at h
 .rename_i t ho;split at h
  .rename_i kt ht;cases h;refine⟨.map aD,eW S aD (.map []),upd ι nT aD,upd w aD nT,.mp nT,te,_,⟨none,true⟩,⟨none,true⟩,λ_=>?_,λhd=>(by cases hd),⟨λe=>e,λl hl=>(by cases hl)⟩,λl m hl=>(by cases hl),Mg hR hT hn kt,?_,qG hR hn hT hw,λhd=>(by cases hd),sX hn (nJ hB hT),kS hB hT,oR hn,rfl,rfl,rfl⟩;.simp only[ah,ho]
   simp[RT,upd]
  cases h
 .rename_i t m k ho;split at h
  .rename_i id u h1 h2;split at h
   .rename_i kt l h3;split at h;.rename_i x h4;cases h;obtain⟨d,k1,k2⟩:=bD hR.env h1;cases d<;>simp only[RT]at k2;rename_i jd;have k3:S[jd]? =some (.map (sR kt l)):=hR.mp id _ h3 jd k2;have k4:valOf (jy env) k=some (mQ kt x):=gn hR.env (by rw[h2];exact Qk h4);refine⟨.val (.bool (iG kt x l)),S,ι,w,.val (.bool (iG kt x l)),te,tS,⟨none,true⟩,⟨none,true⟩,λ_=>?_,λhd=>(by cases hd),⟨λe=>e,λl hl=>(by cases hl)⟩,λl m hl=>(by cases hl),hR,by simp only[RT],hw,λhd=>(by cases hd),Fr.refl _ _ _,hB,gM _ _,rfl,rfl,rfl⟩;simp only[ah,ho,k1,k4,k3,hc.look x l,cq,Ki,BP];rfl
    cases h
   cases h
  cases h
 .rename_i t m k y ho;split at h
  .rename_i id u h1 h2 h5;split at h
   .rename_i kt l h3;split at h;.rename_i x h4;cases h;obtain⟨d,k1,k2⟩:=bD hR.env h1;cases d<;>simp only[RT]at k2;rename_i jd;have k3:S[jd]? =some (.map (sR kt l)):=hR.mp id _ h3 jd k2;have k4:valOf (jy env) k=some (mQ kt x):=gn hR.env (by rw[h2];exact Qk h4);have k5:valOf (jy env) y=some (.bool true):=gn hR.env (by rw[h5];rfl);obtain⟨r,k6,k7⟩:=hc.find x l;refine⟨bE,S.set jd (.map (sR kt (gb kt x l))),ι,w,.unk,te,_,⟨none,true⟩,⟨none,true⟩,λ_=>?_,λhd=>(by cases hd),⟨λe=>e,λl hl=>(by cases hl)⟩,λl m hl=>(by cases hl),Mf hR k2 h3,by simp only[RT],hw,λhd=>(by cases hd),AV k2,abj hB h3,AQ k3 (λe=>by cases e),rfl,rfl,rfl⟩;simp only[ah,ho,k1,k4,k5,k3,k6,k7,av]
    cases h
   cases h
  cases h
 cases h
end Go.Tv
namespace Go.Tv
open Go Go.Di Go.Proofs
def kH(tS:List TB)(g:Nat)(t:TT):Option (Nat×List t.den×Bool):=
 match tS[g]? with
 |some (.rows t' e l z)=>if h:t'=t then some (e,h▸l,z)else none
 |_=>none
theorem lN{tS:List TB}{g:Nat}{t:TT}{e:Nat}{l:List t.den}{z:Bool}(h:kH tS g t=some (e,l,z)):tS[g]? =some (.rows t e l z):=by
 unfold kH at h;split at h
 .rename_i t' e' l' z' hg;split at h;.rename_i ht;subst ht;cases h;exact hg
  cases h
 cases h
section
variable (ty:fP) (tt:TypeId->Option TT)
def Kh(te:List TV)(tS:List TB)(o:Oper):Option (TV×Nat×Prop):=
 match o.op with
 |.indexAddr t x i=>match ty t,fM te x,H8 te i with
  |some ⟨.slice _ s _ _,_,_⟩,some (.so g k),some n=>match kH tS g k with
   |some (_,l,_)=>if k.size==s then some (.sp g k n.toNat 0,g,0<=n/\n<(l.length:Int))else none
   |none=>none
  |_,_,_=>none
 |.fieldAddr t x f=>match ty t,fM te x with
  |some ⟨.struct fs,_,_⟩,some (.sp g k i off)=>match fs[f]? with
   |some (o,s,_)=>if 0<s then some (.sp g k i (off+o),g,True)else none
   |none=>none
  |_,_=>none
 |.load t a=>match ty t,fM te a with
  |some d,some (.sp g k i off)=>match kH tS g k with
   |some (_,l,_)=>(wX d.k.isAgg d.size (k.cells (l.getD i k.dft)) off).map λv=>(fO tt t v,g,True)
   |none=>none
  |_,_=>none
 |.call {callee:=.builtin .len,args,argTypes}=>match args.toList,argTypes.toList with
  |[x],[t]=>match ty t,fM te x with
   |some ⟨.slice _ _ _ _,_,_⟩,some (.so g k)=>match kH tS g k with
    |some (_,l,_)=>some (.val (.int .i64 (l.length:Nat)),g,True)
    |none=>none
   |_,_=>none
  |_,_=>none
 |_=>none
def Uz(te:List TV)(tS:List TB)(o:Oper):Option (Nat×List TB):=
 match o.op with
 |.store t a x=>match ty t,fM te a,(fM te x).map (fO tt t)with
  |some d,some (.sp g k i off),some v=>match kH tS g k with
   |some (e,l,false)=>if v.D4&&v.cells.length==d.size then match MO (k.cells (l.getD i k.dft)) off v.cells with
     |some cs=>match k.of cs with
      |some (y,[])=>some (g,tS.set g (.rows k e (l.set i y) false))
      |_=>none
     |none=>none
    else none
   |_=>none
  |_,_,_=>none
 |_=>none
def UJ:TV->Bool
 |.au=>true
 |.sl _ [] .full=>true
 |_=>false
def Uy(te:List TV)(tS:List TB)(o:Oper)(nT:Nat):Option (TV×List TV×List TB×Prop):=
 match o.op with
 |.makeSlice t a b=>match ty t,H8 te a,H8 te b,tt t with
  |some ⟨.slice e s lU agg,_,_⟩,some n,some m,some (.sl k)=>match ty e with
   |some ⟨_,_,some z⟩=>match k.of (z.map tM)with
    |some (x,[])=>if decide (0<s)&&k.size==s&&k.agg==agg&&(agg||s==1)&&decide (lU<=100000)then
      some (.so nT k,te,pK tS nT (.rows k e (List.replicate n.toNat x) false),m=n/\0<=n/\n<=1000000000)else none
    |_=>none
   |_=>none
  |_,_,_,_=>none
 |.buildSlice t n ps=>match ty.h o with
  |1=>match ty t,AP te ps.toList,tt t with
   |some ⟨.slice e s _ agg,_,_⟩,some l,some (.sl k)=>match ty e with
    |some ⟨_,_,some z⟩=>if decide (0<s)&&decide (n*s<=16777216)&&l.length==n&&z.length==s&&k.size==s&&k.agg==agg&&(agg||s==1)then
      (D1 k 0 l).map λw=>(.so nT k,te,pK tS nT (.rows k e w false),True)
     else none
    |_=>none
   |_,_,_=>none
  |_=>none
 |.call {callee:=.builtin .append,args,argTypes}=>match args.toList,argTypes.toList with
  |[x,y],[t,u]=>if t=u then match fM te x with
   |some (.so g k)=>match ty t,(fM te y).map (fO tt t)with
    |some ⟨.slice e s lU agg,_,_⟩,some (.sl k' m _)=>if h:k'=k then match kH tS g k,ty e with
      |some (e',l,false),some ⟨_,_,some _⟩=>if e'==e&&k.size==s&&k.agg==agg&&decide (lU<=100000)then
       some (.so g k,kE g te,(tS.map (qA g)).set g (.rows k e (l++(h▸m)) false),l.length+m.length<=1000000000)else none
      |_,_=>none
     else none
    |_,_=>none
   |some v=>match ty.h o with
    |1=>match ty t,(fM te y).map (fO tt t)with
     |some ⟨.slice e s lU agg,_,_⟩,some (.sl k' (a::m) _)=>match ty e with
      |some ⟨_,_,some _⟩=>if UJ v&&decide (0<s)&&k'.size==s&&k'.agg==agg&&(agg||s==1)&&decide (lU<=100000)then
       some (.so nT k',te,pK tS nT (.rows k' e (a::m) false),(a::m).length<=1000000000)else none
      |_=>none
     |_,_=>none
    |_=>none
   |none=>none
   else none
  |_,_=>none
 |_=>none
end
variable {P:Program} {ty:fP} {tt:TypeId->Option TT} {ι ι' w:lq} {S S':ai} {te mM:List TV} {env:List DV} {tS iT:List TB} {aI:bS} {call:bt} {yf:ew} {o:Oper} {aD nT:Nat} {B:List Nat} {ops:Array Oper}
theorem yl{t:TT}:∀{l:List t.den}{ds:List DV}{i:Nat},fH t l ds->i<l.length->∃pre c post,ds=pre++c++post/\pre.length=i*t.size/\CR t (l.getD i t.dft) c/\∀y c',CR t y c'->fH t (l.set i y) (pre++c'++post)
 |[],_,_,_,h=>by simp at h
 |x::l,ds,i,hf,h=>by
  simp only[fH]at hf;obtain⟨c,m,rfl,h1,h2⟩:=hf;cases i with
  |zero=>exact⟨[],c,m,rfl,by simp,h1,λy c' hc=>by simp only[List.set_cons_zero,fH];exact⟨c',m,rfl,hc,h2⟩⟩
  |succ i=>obtain⟨pre,c1,post,rfl,k1,k2,k3⟩:=yl (i:=i) h2 (by simpa using h);refine⟨c++pre,c1,post,by simp,by rw[cD,rH h1,k1,j3,Nat.one_mul,mz],by simpa using k2,λy c' hc=>?_⟩;simp only[List.set_cons_succ,fH];exact⟨c,pre++c'++post,by simp,h1,k3 y c' hc⟩
theorem LJ{t:TT}:∀{l m:List t.den}{ds es:List DV},fH t l ds->fH t m es->fH t (l++m) (ds++es)
 |[],_,ds,_,h,k=>by simp only[fH]at h;subst h;exact k
 |x::l,m,ds,es,h,k=>by simp only[fH]at h;obtain⟨c,r,rfl,h1,h2⟩:=h;simp only[nM,fH];exact⟨c,r++es,by simp,h1,LJ h2 k⟩
theorem Ez{t:TT}{x:t.den}{c:List DV}(h:CR t x c):∀n,fH t (List.replicate n x) (List.replicate n c).flatten
 |0=>by simp[fH]
 |n+1=>by simp only[zx,List.flatten_cons,fH];exact⟨c,_,rfl,h,Ez h n⟩
theorem tG{t:TT}{agg:Bool}:∀{l:List t.den}{rows:List DV},fS (CR t) agg l rows->fH t l (flat rows)
 |[],[],_=>by simp[flat,fH]
 |x::l,r::rows,h=>by simp only[flat,cM,fH];exact⟨r.cells,_,rfl,h.1.1,tG h.2⟩
theorem xz{t:TT}:∀{qs:List (Nat×DV)}{i:Nat}{l:List t.den},Gy t i qs l->fH t l (jJ qs)
 |[],_,[],_=>by simp[jJ,fH]
 |(j,d)::qs,i,x::l,h=>by obtain⟨⟨rfl,hc⟩,h⟩:=h;simp only[jJ,cM,fH];exact⟨d.strip.cells,_,rfl,hc,xz h⟩
theorem EH:∀{t:TT}{x:t.den}{c:List DV},CR t x (c.map DV.aM)->c.all DV.bY=true->CR t x c
 |.int _,_,c,h,hp=>by simp only[CR]at h⊢;obtain⟨d,rfl⟩:∃d,c=[d]:=List.length_eq_one_iff.1 (by have:=congrArg List.length h;simpa using this);cases d<;>simp_all [DV.aM]
 |.bool,_,c,h,hp=>by simp only[CR]at h⊢;obtain⟨d,rfl⟩:∃d,c=[d]:=List.length_eq_one_iff.1 (by have:=congrArg List.length h;simpa using this);cases d<;>simp_all [DV.aM]
 |.str,_,c,h,hp=>by simp only[CR]at h⊢;obtain⟨d,rfl⟩:∃d,c=[d]:=List.length_eq_one_iff.1 (by have:=congrArg List.length h;simpa using this);cases d<;>simp_all [DV.aM]
 |.unit,_,c,h,_=>by simp only[CR]at h⊢;simpa using h
 |.pair a b,x,c,h,hp=>by simp only[CR]at h⊢;obtain⟨c1,c2,e,h1,h2⟩:=h;obtain⟨d1,d2,rfl,rfl,rfl⟩:=List.map_eq_append_iff.1 e;rw[o6,aA]at hp;exact⟨d1,d2,rfl,EH h1 hp.1,EH h2 hp.2⟩
 |.sl t,l,c,h,hp=>by
  simp only[CR]at h⊢;obtain⟨rows,f,e,h⟩:=h;obtain⟨d,rfl⟩:∃d,c=[d]:=List.length_eq_one_iff.1 (by have:=congrArg List.length e;simpa using this);cases d<;>simp[DV.aM]at e;rename_i r tok f';obtain⟨rfl,-⟩:=e;cases tok with
  |some=>simp[DV.bY]at hp
  |none=>exact⟨r,f',rfl,h⟩
theorem FW(d:DV):d.aM.aM=d.aM:=by cases d<;>rfl
theorem Ju{v:TV}{d:DV}(hk:v.D4=true)(h:RT ι S v d):d.strip.cells=d.cells.map DV.aM:=by cases v<;>cases d<;>simp only[RT]at h<;>first|(cases hk;done)|rfl
theorem R8{agg:Bool}{n off:Nat}{pre c post:List DV}{d:DV}(h:pS agg n c off=some d):pS agg n (pre++c++post) (pre.length+off)=some d:=by
 unfold pS at h⊢;cases agg with
 |true=>
  simp only[if_true,af]at h⊢;obtain⟨cs,h1,rfl⟩:=h;refine⟨cs,?_,rfl⟩;unfold Uh at h1⊢;split at h1;.rename_i hle;cases h1;rw[if_pos (by simp;omega),iO,zg,j5 (by omega),gQ,qX,List.drop_append_of_le_length (by omega),List.take_append_of_le_length (by simp;omega)]
  cases h1
 |false=>simp only[aG,if_false]at h⊢;have hlt:=(az.1 h).1;rw[iO,iu (by omega),qX,er hlt];exact h
theorem Xd{off:Nat}{pre c post cs c':List DV}(h:wP c off cs=some c'):wP (pre++c++post) (pre.length+off) cs=some (pre++c'++post):=by
 unfold wP at h⊢;split at h
 .rename_i hle;cases h;have e1:(pre++c++post).take (pre.length+off)=pre++c.take off:=by rw[iO,List.take_append,List.take_of_length_le (by omega),qX,List.take_append_of_le_length (by omega)]
  have e2:(pre++c++post).drop (pre.length+off+cs.length)=c.drop (off+cs.length)++post:=by rw[iO,fo,zg,j5 (by omega),gQ,qX,List.drop_append_of_le_length (by omega)]
  rw[if_pos (by simp;omega),e1,e2];simp[iO]
 cases h
theorem abv(h:bT ι te tS env S){g i off:Nat}{t:TT}{e:Nat}{l:List t.den}{z:Bool}{d:DV}(hg:tS[g]? =some (.rows t e l z))(hd:RT ι S (.sp g t i off) d):∃id ds,d=.gD id l.length (i*t.size+off)/\ι g=some id/\S[id]? =some (.op e t.size ds z)/\CS S id l.length=some (e,t.size,ds,z)/\fH t l ds/\i<l.length/\0<t.size/\(t.agg||t.size==1)=true:=by
 cases d<;>simp only[RT]at hd;rename_i id n sQ;obtain⟨h1,rfl,e',s',l',z',h2,h3,h4⟩:=hd;obtain⟨q0,q1,ds,q2,q3⟩:=h.mp g _ hg id h1;rw[h2]at q2;cases q2;have hl:=iF q3;have hn:n=l.length:=Nat.eq_of_mul_eq_mul_right q0 (h3.trans hl);subst hn;refine⟨id,l',rfl,h1,h2,?_,q3,?_,q0,q1⟩;.unfold CS;rw[h2];simp only[h3,if_true]
 rw[<-h3]at h4;have:i*t.size<l.length*t.size:=by omega
 exact Nat.lt_of_mul_lt_mul_right this
theorem E4{v:TV}{g:Nat}{c:Prop}(h:Kh ty tt te tS o=some (v,g,c))(hc:c)(hR:bT ι te tS env S):∃d id,(∀aD,ah P ty aI call yf (jy env) o S aD=some (d,S))/\RT ι S v d/\ι g=some id/\((∃t a f,o.op=.fieldAddr t a f/\∃n off,jy env a=some (.gD id n off))\/(∃t a i,o.op=.indexAddr t a i/\∃n ag,jy env a=some (.jx id n ag))\/(∃t a,o.op=.load t a/\∃n off,jy env a=some (.gD id n off))\/∃args ats,o.op=.call {callee:=.builtin .len,args,argTypes:=ats}):=by
 unfold Kh at h;split at h
 .rename_i t x i ho;split at h
  .rename_i e s lU agg sz z g' k n h1 h2 h3;split at h
   .rename_i e' l zz h4;split at h
    .rename_i h5;cases h;have hg:=lN h4;obtain⟨d,k1,k2⟩:=bD hR.env h2;obtain⟨id,ds,rfl,m1,m2,m3,m4,m5,m6⟩:=Gi hR hg k2 rfl;have hs:k.size=s:=by simpa using h5
     have hl:=iF m4;have hi:intOf (jy env) i=some n:=qM hR.env h3;obtain⟨c1,c2⟩:=hc;refine⟨.gD id l.length (n.toNat*s),id,λaD=>?_,?_,m1,.inr (.inl ⟨t,x,i,ho,_,_,k1⟩)⟩;.simp only[ah,ho,h1,k1,hi,m3];rw[if_pos ⟨c1,by omega,hs⟩]
     simp only[RT];refine⟨m1,by rw[hs];rfl,e',k.size,ds,zz,m2,hl.symm,?_⟩;rw[hl,<-nK];exact fZ _ (by omega)
    cases h
   cases h
  cases h
 .rename_i t x f ho;split at h
  .rename_i fs sz z g' k i off h1 h2;split at h
   .rename_i of s ag hf;split at h
    .rename_i hs;cases h;obtain⟨d,k1,k2⟩:=bD hR.env h2;cases d<;>simp only[RT]at k2;rename_i id n sQ;obtain⟨m1,rfl,e',s',l',z',m2,m3,m4⟩:=k2;have hop:CS S id n=some (e',s',l',z'):=by unfold CS;rw[m2];simp only[m3,if_true]
     refine⟨.gD id n (i*k.size+off+of),id,λaD=>?_,?_,m1,.inl ⟨t,x,f,ho,_,_,k1⟩⟩;.simp only[ah,ho,h1,k1,hf,hop,if_pos hs]
     simp only[RT];exact⟨m1,by omega,e',s',l',z',m2,m3,m4⟩
    cases h
   cases h
  cases h
 .rename_i t a ho;split at h
  .rename_i td g' k i off h1 h2;split at h;.rename_i e' l zz h4;simp only[af,ay]at h;obtain⟨u,h5,rfl,rfl,-⟩:=h;have hg:=lN h4;obtain⟨d,k1,k2⟩:=bD hR.env h2;obtain⟨id,ds,rfl,m1,m2,m3,m4,m5,m6,m7⟩:=abv hR hg k2;obtain⟨pre,c,post,rfl,q1,q2,-⟩:=yl m4 m5;obtain⟨d,q3,q4⟩:=si (sx (ι:=ι) (S:=S) q2) h5;refine⟨d,id,λaD=>?_,dg q4,m1,.inr (.inr (.inl ⟨t,a,ho,_,_,k1⟩))⟩;simp only[ah,ho,k1,lH,h1,m3];rw[<-q1,R8 q3];rfl
   cases h
  cases h
 .rename_i args ats ho;split at h
  .rename_i x t ha ht;split at h
   .rename_i e s lU agg sz z g' k h1 h2;split at h;.rename_i e' l zz h4;cases h;have hg:=lN h4;obtain⟨d,k1,k2⟩:=bD hR.env h2;obtain⟨id,ds,rfl,m1,m2,m3,m4,m5,m6⟩:=Gi hR hg k2 rfl;refine⟨.val (.int .i64 (l.length:Nat)),id,λaD=>?_,by simp only[RT],m1,.inr (.inr (.inr ⟨_,_,ho⟩))⟩;simp only[ah,ho,ha,ht,h1,k1]
    cases h
   cases h
  cases h
 cases h
theorem Ff{v:TV}{g:Nat}{c:Prop}(h:Kh ty tt te tS o=some (v,g,c))(hc:c)(dr:Bool):Does P ty aI call yf B o nT te tS dr λv' bZ bN ft=>v'=v/\bZ=te/\bN=tS/\ft=⟨some [g],false⟩:=by
 intro ι w env S aD hR hB hw hT hn hS;obtain⟨d,id,h1,h2,h3,h4⟩:=E4 (P:=P) (aI:=aI) (call:=call) (yf:=yf) h hc hR;have hl:∃l,aJ P ty aI call yf (jy env) o S aD=some (d,S,⟨some l,false⟩)/\∀j∈l,j=id:=by
  rcases h4 with ⟨t,a,f,ho,n,off,ha⟩|⟨t,a,i,ho,n,ag,ha⟩|⟨t,a,ho,n,off,ha⟩|⟨args,ats,ho⟩;.exact⟨[id],by simp only[aJ,ho,ha,h1,av],by simp⟩
  .exact⟨[id],by simp only[aJ,ho,ha,h1,av],by simp⟩
  .exact⟨[id],by simp only[aJ,ho,ha,h1,av],by simp⟩
  exact⟨[],by simp only[aJ,ho,h1,av],by simp⟩
 obtain⟨l,h5,h6⟩:=hl;refine⟨d,S,ι,w,v,te,tS,⟨some l,false⟩,⟨some [g],false⟩,λ_=>h1 aD,λ_=>h5,⟨λe=>e,λl' iU=>?_⟩,λl' m _ hm j hj=>?_,hR,h2,hw,λ_ _ _=>rfl,Fr.refl _ _ _,hB,gM _ _,rfl,rfl,rfl,rfl⟩;.cases iU;exact⟨l,rfl,λj hj=>⟨g,by simp,by rw[h6 j hj];exact hw _ _ h3⟩⟩
 cases hm;exact .inr ⟨g,by rw[h6 j hj];exact h3⟩
theorem Wa{k:Nat}{v:TV}{g:Nat}{c:Prop}{Q:List TV->Prop}(ho:ops[k]? =some o)(hw:eD ops te o=some true)(h:Kh ty tt te tS o=some (v,g,c))(hc:c)(hq:WQ P ty aI call yf ops tS (k+1) (ki te o.dst v) Q):WQ P ty aI call yf ops tS k te Q:=by
 intro ι env S hR;obtain⟨d,id,h1,h2,h3,h4⟩:=E4 (P:=P) (aI:=aI) (call:=call) (yf:=yf) h hc hR;obtain⟨aK,bZ,n1,n2,n3⟩:=hq ι (kC env o.dst d) S (oP hR h2 _);refine⟨aK,bZ,?_,n2,n3⟩;rw[oV ho];have hq:dH P ty aI call yf (jy env) o S=some d:=by rcases h4 with ⟨t,a,f,ho,n,off,ha⟩|⟨t,a,i,ho,n,ag,ha⟩|⟨t,a,ho,n,off,ha⟩|⟨args,ats,ho⟩<;>simp only[dH,ho,h1,av]
 simp only[ry,iP hR.env hw,if_true,hq,n1]
end Go.Tv
