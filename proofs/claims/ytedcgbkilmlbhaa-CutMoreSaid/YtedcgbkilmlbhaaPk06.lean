import Derived.Test.YtedcgbkilmlbhaaPk01
import Derived.Test.YtedcgbkilmlbhaaProg
import Derived.Test.YtedcgbkilmlbhaaPk05
import Derived.Test.YtedcgbkilmlbhaaChecked
import Derived.KernelRfl
import Derived.Laws.BitsLemmas
import Derived.Laws.StructEq
namespace Go.Di
open Go Go.Proofs
def agx(d:Tmp)(t:TypeId):Nat:=if t==41 then(if d==31 then 3 else if d==27 then 3 else 0)else if t==28 then(if d==33 then 16381 else 0)else 0
noncomputable abbrev TyH:fR:=⟨Tz Try.prog,agx⟩
end Go.Di
namespace Go.Tv
open Go Go.Di Go.Proofs
abbrev cS:TT:=.int .i64
abbrev bq:TT:=.sl cS
abbrev aU:TT:=.pair bq (.pair bq (.pair cS (.pair bq .unit)))
abbrev VL:TT:=.pair cS (.pair cS .unit)
abbrev cz:TT:=.pair cS (.pair cS (.pair cS .unit))
abbrev cv:TT:=.pair .bool (.pair cz .unit)
abbrev fB:TT:=.pair bq (.pair bq (.pair cS (.pair bq (.pair bq (.pair bq (.pair bq (.pair bq (.pair bq (.pair bq (.pair bq (.pair bq .unit)))))))))))
def ttL:List (Nat×TT):=[(3,cS),(4,.bool),(30,cS),(22,bq),(26,aU),(28,.sl aU),(77,VL),(57,.int .u64),(56,cz),(33,.sl cz),(81,cz),(41,.sl cz),(44,.sl bq),(9,.str),(110,cv),(107,cv),(108,.sl .bool),(96,.sl fB)]
def X3(t:TypeId):Option TT:=(ttL.find? λp=>p.1==t).map (·.2)
abbrev vv:=TV.val
abbrev vi:=Value.int IntKind.i64
abbrev vb:=Value.bool
abbrev bp(n:Int):TV:=.val (.int .i64 n)
abbrev iD(b:Bool):TV:=.val (.bool b)
noncomputable abbrev Tp:Program:=Try.prog
noncomputable abbrev Ty:fR:=TyH
def LL:Nat:=1001000
structure yx (bH:bR):Prop where
 other:∀f a,f≠33->f≠83->f≠13->f≠67->f≠0->bH f a=none
 fit:bH 13 []=some (.val (.bool true))
section
variable (bH:bR) (n:Nat)
noncomputable abbrev JQ:bR:=ym Tp Ty bH LL n
noncomputable abbrev xE:bt:=pU Tp Ty bH LL n
noncomputable abbrev yfT:ej:=yfN Tp Ty bH LL n
end
theorem Dv{n:Int}(h:-9223372036854775808<=n)(h':n<=9223372036854775807):IntKind.i64.wrap n=n:=by rw[IntKind.wrap_i64];omega
end Go.Tv
namespace Go.Tv
open Go Go.Di
def Du(aK:bR)(call:bt)(g:FuncId)(targs:List TV)(Q:List TV->Prop):Prop:=
 ∀bJ S,cK fA S targs bJ->(∀ds,cK fA [] targs ds->aK g ds=none)/\∃S' id ds ts,call g bJ S=some (.ptr id 0,S')/\¬Lv S id/\S'[id]? =some (.cells ds)/\cK fA [] ts ds/\eW ts=[]/\(∀k',Lv S k'->S'[k']? =S[k']?)/\Nn S.length S S'/\Q ts
theorem Du.mono {aK:bR}{call:bt}{g:FuncId}{targs:List TV}{Q Q':List TV->Prop}(h:Du aK call g targs Q)(hq:∀v,Q v->Q' v):Du aK call g targs Q':=λbJ S hd=>by obtain⟨h0,S',id,ds,ts,h1,h2,h3,h4,h5,h6,h7,h8⟩:=h bJ S hd;exact⟨h0,S',id,ds,ts,h1,h2,h3,h4,h5,h6,h7,hq _ h8⟩
variable {P:Program} {ty:fR} {tt:TypeId->Option TT} {ι ι' w:kY} {S S':ai} {te mI:List TV} {env:List DV} {tS iM:List TB} {aK:bR} {call:bt} {yf:ej} {o:Oper} {aF nT:Nat} {B:List Nat} {r:TR} {ops:Array Oper}
theorem Od{f:Operand}{args:Array Operand}{argTypes:Array TypeId}{g:FuncId}{fs cs xs targs:List TV}{Q:List TV->Prop}(hop:o.op=.call {callee:=.value f,args,argTypes})(hh:ty.h o≠1)(hf:fK te f=some (.fn g fs cs))(ha:lS te args.toList=some xs)(hp:(fs++xs++cs).all eM=true)
  (hn:bL (gf tt fs argTypes) (fs++xs++cs)=targs) (hs:Du aK call g targs Q):Does P ty aK call yf B o nT te tS false λv bX bN _=>∃ts,Q ts/\v=.ptr nT 0/\bX=te/\bN=oG tS nT (.cells ts):=by
 intro ι w env S aF hR hB hw hT Fe hS;obtain⟨xh,lC,Fj,k1,k2,k3⟩:=iL hR.env hf ha;obtain⟨k4,k5⟩:=jP (ts:=gf tt fs argTypes) (ι':=fA) (S':=[]) hp k3;have k6:=lP (ts:=gf tt fs argTypes) (ι':=fA) (S':=S) hp k3;rw[hn]at k5 k6;obtain⟨h0,S',id,ds,ts,m1,m2,m3,m4,m5,m6,m7,m8⟩:=hs _ S k6;have hne:∀{k k':Nat},ι k=some k'->k'≠id:=λhk e=>m2 (e▸hR.live hk);have yq:ι nT=none:=hR.new hT;have K:jy ι S (upd ι nT id) S' λ_=>False:=λk k' _ hk=>by
  have h1:k≠nT:=by rintro rfl;rw[yq]at hk;cases hk
  exact⟨by simp only[upd,h1,if_false];exact hk,dO (m6 k' (hR.live hk))⟩
 refine⟨.ptr id 0,S',upd ι nT id,λj=>if j=id then some nT else w j,.ptr nT 0,te,oG tS nT (.cells ts),⟨none,true⟩,⟨none,true⟩,λ_=>?_,λe=>(by cases e),⟨λe=>e,λl hl=>(by cases hl)⟩,λl m hl=>(by cases hl),?_,by simp[RT,upd],?_,?_,?_,kO hB hT,⟨m7.1,λj hj dm=>m7.2 j (by have:=(aA.1 dm).1;omega) dm⟩,ts,m8,rfl,rfl,rfl⟩;.simp only[ah,hop,k1,k2,wO,k4,if_true,h0 _ k5,m1]
 .refine⟨bu K _ _ hR.env,λk l hk=>?_,λk e s hk t ht=>?_,λk k' hk=>?_,λi j k' hi hj=>?_,λk b hk t ht=>?_⟩
  .rw[cV hT]at hk;split at hk;.rename_i e;subst e;cases hk;exact⟨id,ds,by simp[upd],m3,jK _ _ m5 m4⟩
   rename_i e;obtain⟨k',iC,h1,h2,h3⟩:=hR.cells k l hk;exact⟨k',iC,by simp only[upd,e,if_false];exact h1,by rw[m6 k' (hR.live h1)];exact h2,bu K _ _ h3⟩
  .rw[cV hT]at hk;split at hk;.cases hk
   rename_i e';simp only[upd,e',if_false]at ht;obtain⟨n,h1⟩:=hR.own k e s hk t ht;exact⟨n,by rw[m6 t (hR.live ht)];exact h1⟩
  .rw[cV hT];split;.exact⟨_,rfl,λe=>by cases e⟩
   rename_i e;simp only[upd,e,if_false]at hk;exact hR.ql k k' hk
  .unfold upd at hi hj;split at hi<;>split at hj;.omega
   .cases hi;exact(hne hj rfl).elim
   .cases hj;exact(hne hi rfl).elim
   exact hR.inj i j k' hi hj
  rw[cV hT]at hk;split at hk;.cases hk;trivial
  rename_i e';simp only[upd,e',if_false]at ht;rw[m6 t (hR.live ht)];exact hR.mp k b hk t ht
 .intro a b qv;unfold upd at qv;split at qv;.rename_i e;subst e;cases qv;simp
  simp only[hne qv,if_false];exact hw _ _ qv
 .intro e;cases e
 refine⟨λk' hl _=>m6 k' hl,λk k' hk=>?_,λk hk=>?_⟩
 .unfold upd at hk;split at hk;.cases hk;exact .inr m2
  exact .inl ⟨k,hk⟩
 have:=nE hB hT;unfold upd;rw[if_neg (λe:k=nT=>this (e▸hk))]
def ady(ty:fR)(rs:List ResultVar)(oc:List (Option TT))(Q:List TV->Prop)(e:DX)(te:List TV)(tS:List TB):Prop:=
 (match e with|.exit _=>False|_=>True)/\∃ts,xu ty te tS rs=some [.ptr 0 0]/\tS[0]? =some (.cells ts)/\ts.all eM=true/\eW (bL oc ts)=[]/\Q (bL oc ts)
theorem Xc{bH:bR}{L n:Nat}{f:FuncId}{fn:Func}{c:Code}{targs:List TV}{oc:List (Option TT)}{Q:List TV->Prop}(hf:P.funcs[f]? =some fn)(hb:fn.body=some c)(ht:∀a,bH f a=none)
  (h:WT P ty (ym P ty bH L n) (pU P ty bH L n) (yfN P ty bH L n) [] L f false c (targs++List.replicate (fn.ntmps-targs.length) .unk) [] (ady ty fn.results.toList oc Q)):Du (ym P ty bH L (n+1)) (pU P ty bH L (n+1)) f targs Q:=by
 have key:∀bJ S,cK fA S targs bJ->∃S' id ds ts,(dx P ty bH L (n+1)).1 f bJ S=some (.ptr id 0,S')/\¬Lv S id/\S'[id]? =some (.cells ds)/\cK fA [] ts ds/\eW ts=[]/\(∀k',Lv S k'->S'[k']? =S[k']?)/\Nn S.length S S'/\Q ts:=by
  intro bJ S hd;have hlen:=gE hd;have hR:bT fA (targs++List.replicate (fn.ntmps-targs.length) .unk) [] (bJ++List.replicate (fn.ntmps-bJ.length) bF) S:=by refine⟨er hd (by rw[hlen];exact sM _ _),λk l hk=>(by simp at hk),λk e s hk=>(by simp at hk),λk k' hk=>(by cases hk),λi j k' hi=>(by cases hi),λk b hk=>(by simp at hk)⟩
  obtain⟨e,aL,S',ι',bX,bN,h1,h2,h3,h4,h5,h6⟩:=h fA _ S hR (λk hk=>(by cases hk));obtain⟨h6,ts,h7,h8,h9,ue,HI⟩:=h6;obtain⟨ds,k1,k2⟩:=sN h2 h7;obtain⟨d,m',rfl,k3,k4⟩:=aj k2;rw[aR k4]at k1;cases d<;>simp only[RT]at k3;rename_i id off;obtain⟨k3,rfl⟩:=k3;obtain⟨iT,iC,m1,m2,m3⟩:=h2.cells 0 ts h8;rw[k3]at m1;cases m1;refine⟨S',id,iC,bL oc ts,?_,?_,m2,lP h9 m3,ue,λk' hl=>h4.rest k' hl (λk hk=>by cases hk),h5,HI⟩
  .simp only[dx,hf,tN,hb];have HJ:cU P ty (kJ bH (dx P ty bH L n).1) (dx P ty bH L n).1 (dx P ty bH L n).2 L f false c (bJ++List.replicate (fn.ntmps-bJ.length) bF) S=some (e,aL,S'):=h1;rw[HJ];cases e with
   |normal=>simp only[k1,ay,oneOf]
   |ret=>simp only[k1,ay,oneOf]
   |exit id=>exact h6.elim
  rcases h4.ours 0 id k3 with ⟨j,hj⟩|hl;.cases hj
  exact hl
 intro bJ S hd;refine⟨λds hds=>?_,key bJ S hd⟩;obtain⟨S',id,iC,ts,k1,-⟩:=key ds [] hds;simp only[ym,kJ,ht,uu,HW,tJ,tV,kI,yt,k1,DV.strip,DV.dA,DV.pure,DV.j9,aI,if_false]
end Go.Tv
namespace Go.Tv
open Go Go.Di Go.Proofs
variable {P:Program}
theorem cR{α β:Type}(s:Sem α)(f:α->Sem β):cu P (s>>=f)=(cu P s).bind λa=>cu P (f a):=by
 change cu P (s.bind f)=_;cases s with
 |pure a=>rfl
 |program k=>
  simp only[Sem.bind,cu];generalize k P=s';induction s' with
  |pure a=>rfl
  |program k ih=>simp only[Sem.bind,cu];exact ih P
  |_=>simp only[Sem.bind,cu,Option.bind_none]
 |_=>simp only[Sem.bind,cu,Option.bind_none]
theorem xP{α:Type}(a:α):cu P (pure a:Sem α)=some a:=rfl
theorem nM:cu P program=some P:=rfl
theorem fV{t:TypeId}{d:TypeDesc}(h:P.underlying t=some d):cu P (underlying t)=some d:=by unfold underlying;rw[cR,nM];simp only[cn,h];rfl
theorem RG(d:Nat)(t:TypeId)(k k':IntKind)(a b:Int)(h:P.underlying t=some (.int k')):cu P (Op.equalIn (d+1) t (.int k a) (.int k b))=some (a==b):=by simp only[Op.equalIn,cR,fV h,cn,if_true];rfl
theorem RF{α:Type}{c:Prop}[Decidable c]{a b:Sem α}:cu P (if c then a else b)=if c then cu P a else cu P b:=by split<;>rfl
theorem tg(d:Nat)(t:TypeId)(xs ys:Array Value)(ht:P.underlying t=some (.struct (P.fieldsOf t)))(hp:P.stoodInHeld t=false):
  cu P (Op.equalIn (d+1) t (.agg xs) (.agg ys))=cu P (Op.eqFields d xs ys (P.fieldsOf t).toList):=by
 simp only[Op.equalIn,cR,fV ht,cn,nM,hp,aI,if_false];rw[<-Array.forIn_toList];generalize(P.fieldsOf t).toList=fs;clear ht;induction fs with
 |nil=>rfl
 |cons f fs ih=>
  simp only[List.forIn_cons,Op.eqFields,cR,RF];split
  .generalize cu P (part f.type xs f.offset)=r1;cases r1 with
   |none=>rfl
   |some a=>
    generalize cu P (part f.type ys f.offset)=r2;cases r2 with
    |none=>rfl
    |some b=>
     simp only[cn];generalize cu P (Op.equalIn d f.type a b)=r3;cases r3 with
     |none=>rfl
     |some r=>
      cases r;.simp only[cn,vL,if_true,xP]
      simp only[cn,gn,aI,if_false,xP];exact ih
  simp only[xP,cn];exact ih
theorem aaT{d:Nat}{xs ys:Array Value}:cu P (Op.eqFields d xs ys [])=some true:=rfl
theorem aa6{t:TypeId}{xs ys:Array Value}{b:Bool}(ht:P.underlying t=some (.struct (P.fieldsOf t)))(hp:P.stoodInHeld t=false)(hm:P.eqGuardType P.depth t=false)(hf:cu P (Op.eqFields 9999 xs ys (P.fieldsOf t).toList)=some b)(x y:Operand):
  jw P (do eqGuard .neq t x y (.agg xs) (.agg ys);binOp .neq t (.agg xs) (.agg ys))=some (.val (.bool !b)):=by
 have h1:cu P (eqGuard .neq t x y (.agg xs) (.agg ys))=some ():=by simp only[eqGuard];simp only[gn,aI,if_false,cR,nM,cn,hm,vL,if_true];rfl
 have h2:cu P (binOp .neq t (.agg xs) (.agg ys))=some (.bool !b):=by simp only[binOp,cR,Op.equal,Op.maxDepth,tg 9999 t xs ys ht hp,hf,cn];rfl
 rw[jw,cR,h1,cn,h2];rfl
variable {ty:fR} {tt:TypeId->Option TT} {ι ι' w:kY} {S S':ai} {te mI:List TV} {env:List DV} {tS iM:List TB} {aK:bR} {call:bt} {yf:ej} {o:Oper} {aF nT:Nat} {B:List Nat} {ops:Array Oper}
end Go.Tv
namespace Go.Tv
open Go Go.Di Go.Proofs
def Cy:(t:TT)->DecidableEq t.den
 |.int _=>inferInstanceAs (DecidableEq Int)
 |.bool=>inferInstanceAs (DecidableEq Bool)
 |.str=>inferInstanceAs (DecidableEq ByteArray)
 |.unit=>inferInstanceAs (DecidableEq Unit)
 |.pair a b=>λx y=>@instDecidableEqProd _ _ (Cy a) (Cy b) x y
 |.sl t=>λx y=>@instDecidableEqList _ (Cy t) x y
def iy(t:TT)(x:t.den)(l:List t.den):Bool:=l.any λy=>@decide (x=y) (Cy t x y)
def fW(t:TT)(x:t.den)(l:List t.den):List t.den:=bif iy t x l then l else l++[x]
structure wR (P:Program) (t:TypeId) (kt:TT):Prop where
 look:∀(x:kt.den)(l:List kt.den),cu P (J3 t ((sE kt l).map Di.Om) (mM kt x) false)=some (.bool (iy kt x l))
 find:∀(x:kt.den)(l:List kt.den),∃r,cu P (Kb t ((sE kt l).map Di.Om) (mM kt x))=some r/\My (sE kt l) (mM kt x) (.bool true) r=some (sE kt (fW kt x l))
def Y2(kt:TT)(v:TV):Option kt.den:=
 match v with
 |.agg l=>match iO l,kt.of l with
  |some vs,some (x,[])=>if vs.length=(F5 kt x).length then some x else none
  |_,_=>none
 |_=>none
def acL(P:Program)(tt:TypeId->Option TT)(te:List TV)(tS:List TB)(o:Oper)(nT:Nat):Option (TV×List TB×Prop):=
 match o.op with
 |.makeMap t none=>match tt t with
  |some kt=>some (.mp nT,oG tS nT (.map kt []),True)
  |none=>none
 |.lookup t m k false=>match fK te m,fK te k with
  |some (.mp id),some v=>match tS[id]? with
   |some (.map kt l)=>match Y2 kt v with
    |some x=>some (.val (.bool (iy kt x l)),tS,wR P t kt)
    |none=>none
   |_=>none
  |_,_=>none
 |.mapUpdate t m k y=>match fK te m,fK te k,fK te y with
  |some (.mp id),some v,some (.val (.bool true))=>match tS[id]? with
   |some (.map kt l)=>match Y2 kt v with
    |some x=>some (.unk,tS.set id (.map kt (fW kt x l)),wR P t kt)
    |none=>none
   |_=>none
  |_,_,_=>none
 |_=>none
theorem I2:∀{t:TT}{l:List TV}{x:t.den}{r:List TV}{vs:List Value},t.of l=some (x,r)->iO l=some vs->∃Yt,iO r=some Yt/\vs=F5 t x++Yt
 |.int k,l,x,r,vs,h,hv=>by
  simp only[TT.of]at h;unfold ofInt at h;split at h
  .split at h;.rename_i hk;subst hk;cases h;simp only[iO,af]at hv;obtain⟨Yt,h1,rfl⟩:=hv;exact⟨Yt,h1,rfl⟩
   cases h
  cases h
 |.bool,l,x,r,vs,h,hv=>by
  simp only[TT.of]at h;unfold ofBool at h;split at h;.cases h;simp only[iO,af]at hv;obtain⟨Yt,h1,rfl⟩:=hv;exact⟨Yt,h1,rfl⟩
  cases h
 |.str,l,x,r,vs,h,hv=>by
  simp only[TT.of]at h;unfold ofStr at h;split at h;.cases h;simp only[iO,af]at hv;obtain⟨Yt,h1,rfl⟩:=hv;exact⟨Yt,h1,rfl⟩
  cases h
 |.unit,l,x,r,vs,h,hv=>by simp only[TT.of]at h;cases h;exact⟨vs,hv,rfl⟩
 |.sl t,l,x,r,vs,h,hv=>by
  simp only[TT.of]at h;unfold Y0 at h;split at h;.simp[iO]at hv
  .simp[iO]at hv
  cases h
 |.pair a b,l,x,r,vs,h,hv=>by
  simp only[TT.of]at h;split at h
  .rename_i y m h1;split at h;.rename_i z m' h2;cases h;obtain⟨vs1,k1,rfl⟩:=I2 h1 hv;obtain⟨vs2,k2,rfl⟩:=I2 h2 k1;exact⟨vs2,k2,by simp[F5]⟩
   cases h
  cases h
theorem P0{kt:TT}{v:TV}{x:kt.den}(h:Y2 kt v=some x):iE v=some (mM kt x):=by
 unfold Y2 at h;split at h
 .split at h
  .rename_i vs y h1 h2;split at h;.cases h;obtain⟨Yt,k1,rfl⟩:=I2 h2 h1;cases k1;simp only[iE,h1,ay,mM,dZ]
   cases h
  cases h
 cases h
section
variable (P:Program)
def Zg(t:TypeId)(a b:Value):Option Bool:=
 match a,b,P.underlying t with
 |.int k a,.int k' b,some (.int _)=>if k'=k then some (a==b)else none
 |.bool a,.bool b,some .bool=>some (a==b)
 |_,_,_=>none
def Ke(E:TypeId->Value->Value->Option Bool)(xs ys:Array Value):List Field->Option Bool
 |[]=>some true
 |f::fs=>match f.name !="_",cu P (part f.type xs f.offset),cu P (part f.type ys f.offset)with
  |true,some a,some b=>match E f.type a b,Ke E xs ys fs with
   |some u,some r=>some (u&&r)
   |_,_=>none
  |_,_,_=>none
def eqV:Nat->TypeId->Value->Value->Option Bool
 |0,t,a,b=>Zg P t a b
 |n+1,t,a,b=>match a,b with
  |.agg xs,.agg ys=>match P.underlying t,P.stoodInHeld t with
   |some (.struct fs),false=>Ke P (eqV n) xs ys fs.toList
   |_,_=>none
  |a,b=>Zg P t a b
end
section
variable {P:Program}
theorem tc{t:TypeId}{fs:Array Field}(h:P.underlying t=some (.struct fs)):P.underlying t=some (.struct (P.fieldsOf t)):=by
 have:P.fieldsOf t=fs:=by simp only[Program.fieldsOf,h]
 rw[this];exact h
theorem Qc{d:Nat}{t:TypeId}{a b:Value}{r:Bool}(h:Zg P t a b=some r):cu P (Op.equalIn (d+1) t a b)=some r:=by
 unfold Zg at h;split at h
 .rename_i k a k' b k2 hu;split at h;.rename_i hk;subst hk;cases h;exact RG d t _ _ a b hu
  cases h
 .rename_i a b hu;cases h;simp only[Op.equalIn,cR,fV hu,cn];rfl
 cases h
theorem Ep{E:TypeId->Value->Value->Option Bool}{d:Nat}(hE:∀t a b r,E t a b=some r->cu P (Op.equalIn d t a b)=some r){xs ys:Array Value}:∀{fs:List Field}{b:Bool},Ke P E xs ys fs=some b->cu P (Op.eqFields d xs ys fs)=some b
 |[],_,h=>by cases h;exact aaT
 |f::fs,b,h=>by
  unfold Ke at h;split at h
  .rename_i a b' hn ha hb;split at h
   .rename_i u r h1 h2;cases h;have Ci:f.name≠"_":=by simpa using hn
    simp only[Op.eqFields,Ci,ne_eq,not_false_eq_true,if_true,cR,ha,hb,cn,hE _ _ _ _ h1];cases u;.rfl
    simp only[gn,aI,if_false,Bool.true_and];exact Ep hE h2
   cases h
  cases h
theorem Nr:∀{n d:Nat}{t:TypeId}{a b:Value}{r:Bool},n<d->eqV P n t a b=some r->cu P (Op.equalIn d t a b)=some r
 |0,0,_,_,_,_,hd,_=>by omega
 |0,d+1,_,_,_,_,_,h=>Qc h
 |n+1,0,_,_,_,_,hd,_=>by omega
 |n+1,d+1,t,a,b,r,hd,h=>by
  unfold eqV at h;split at h
  .rename_i xs ys;split at h;.rename_i fs h1 h2;rw[tg d t xs ys (tc h1) h2];simp only[Program.fieldsOf,h1];exact Ep (λt a b r h=>Nr (by omega) h) h
   cases h
  exact Qc h
end
variable {P:Program} {ty:fR} {tt:TypeId->Option TT} {ι ι' w:kY} {S S':ai} {te mI:List TV} {env:List DV} {tS iM:List TB} {aK:bR} {call:bt} {yf:ej} {o:Oper} {aF nT:Nat} {B:List Nat} {ops:Array Oper}
theorem LS(h:bT ι te tS env S)(hT:yz tS nT)(hn:yA S aF)(kt:TT):bT (upd ι nT aF) te (oG tS nT (.map kt [])) env (eU S aF (.map [])):=by
 have K:=rZ h hT hn (.map []);refine⟨bu K _ _ h.env,λk l hk=>?_,λk e s hk t ht=>?_,λk k' hk=>?_,λi j k' hi hj=>?_,λk b hk t ht=>?_⟩
 .rw[cV hT]at hk;split at hk;.cases hk
  rename_i e;obtain⟨k',iC,h1,h2,h3⟩:=h.cells k l hk;exact⟨k',iC,by simp only[upd,e,if_false];exact h1,by rw[bG hn,if_neg (h.ep hn h1)];exact h2,bu K _ _ h3⟩
 .rw[cV hT]at hk;split at hk;.cases hk
  rename_i e';simp only[upd,e',if_false]at ht;obtain⟨n,h1⟩:=h.own k e s hk t ht;exact⟨n,by rw[bG hn,if_neg (h.ep hn ht)];exact h1⟩
 .rw[cV hT];split;.exact⟨_,rfl,λe=>by cases e⟩
  rename_i e;simp only[upd,e,if_false]at hk;exact h.ql k k' hk
 .unfold upd at hi hj;split at hi<;>split at hj;.omega
  .cases hi;exact(h.ep hn hj rfl).elim
  .cases hj;exact(h.ep hn hi rfl).elim
  exact h.inj i j k' hi hj
 rw[cV hT]at hk;split at hk;.rename_i e';cases hk;simp only[upd,e',if_true,aB]at ht;subst ht;rw[bG hn,if_pos rfl];exact rfl
 rename_i e';simp only[upd,e',if_false]at ht;rw[bG hn,if_neg (h.ep hn ht)];exact h.mp k b hk t ht
theorem LR(h:bT ι te tS env S){id iT:Nat}{kt:TT}{l l':List kt.den}(hi:ι id=some iT)(hl:tS[id]? =some (.map kt l)):bT ι te (tS.set id (.map kt l')) env (S.set iT (.map (sE kt l'))):=by
 have hS:S[iT]? =some (.map (sE kt l)):=h.mp id _ hl iT hi;have hlt:=(aA.1 hl).1;have Ct:=(aA.1 hS).1;have K:jy ι S ι (S.set iT (.map (sE kt l'))) λ_=>False:=λa b _ qv=>⟨qv,by
  rw[aH];split;.rename_i e1;subst e1;exact vH (by rw[hS];simp) (by rw[hS];simp) (by rw[hS];simp)
  exact dO rfl⟩
 have hg:∀j,(tS.set id (.map kt l'))[j]? =if j=id then some (.map kt l')else tS[j]? :=λj=>by
  rw[aH];by_cases e:j=id;.subst e;simp[hlt]
  rw[if_neg (Ne.symm e),if_neg e]
 have og:∀j,j≠iT->(S.set iT (.map (sE kt l')))[j]? =S[j]? :=λj hj=>by rw[aH,if_neg (Ne.symm hj)]
 refine⟨bu K _ _ h.env,λj m hj=>?_,λj e s hj t ht=>?_,λj j' hj=>?_,h.inj,λj b hj t ht=>?_⟩
 .rw[hg]at hj;split at hj;.cases hj
  rename_i e;obtain⟨j',Mw,h1,h2,h3⟩:=h.cells j m hj;exact⟨j',Mw,h1,by rw[og j' λe1=>e (h.inj _ _ _ (e1▸h1) hi)];exact h2,bu K _ _ h3⟩
 .rw[hg]at hj;split at hj;.cases hj
  obtain⟨n,h1⟩:=h.own j e s hj t ht;exact⟨n,(K j t (λe=>e) ht).2.1 _ _ _ h1⟩
 .rw[hg];split;.exact⟨_,rfl,by simp⟩
  exact h.ql j j' hj
 rw[hg]at hj;split at hj;.rename_i e;subst e;cases hj;rw[hi]at ht;cases ht;rw[aH,if_pos rfl,if_pos Ct];exact rfl
 rename_i e;rw[og t λe1=>e (h.inj _ _ _ (e1▸ht) hi)];exact h.mp j b hj t ht
theorem abf{id:Nat}{kt:TT}{l l':List kt.den}(hB:oE B tS)(hl:tS[id]? =some (.map kt l)):oE B (tS.set id (.map kt l')):=λk hk=>by
 obtain⟨c,hc⟩:=hB k hk;refine⟨c,?_⟩;rw[aH,if_neg];.exact hc
 rintro rfl;rw[hl]at hc;cases c<;>cases hc
theorem XM{v:TV}{iM:List TB}{c:Prop}(h:acL P tt te tS o nT=some (v,iM,c))(hc:c):Does P ty aK call yf B o nT te tS false λv' bX bN _=>v'=v/\bX=te/\bN=iM:=by
 intro ι w env S aF hR hB hw hT hn hS;unfold acL at h;split at h
 .rename_i t ho;split at h
  .rename_i kt ht;cases h;refine⟨.map aF,eU S aF (.map []),upd ι nT aF,upd w aF nT,.mp nT,te,_,⟨none,true⟩,⟨none,true⟩,λ_=>?_,λhd=>(by cases hd),⟨λe=>e,λl hl=>(by cases hl)⟩,λl m hl=>(by cases hl),LS hR hT hn kt,?_,qz hR hn hT hw,λhd=>(by cases hd),sI hn (nE hB hT),kO hB hT,oN hn,rfl,rfl,rfl⟩;.simp only[ah,ho]
   simp[RT,upd]
  cases h
 .rename_i t m k ho;split at h
  .rename_i id u h1 h2;split at h
   .rename_i kt l h3;split at h;.rename_i x h4;cases h;obtain⟨d,k1,k2⟩:=bE hR.env h1;cases d<;>simp only[RT]at k2;rename_i iT;have k3:S[iT]? =some (.map (sE kt l)):=hR.mp id _ h3 iT k2;have k4:valOf (jr env) k=some (mM kt x):=gh hR.env (by rw[h2];exact P0 h4);refine⟨.val (.bool (iy kt x l)),S,ι,w,.val (.bool (iy kt x l)),te,tS,⟨none,true⟩,⟨none,true⟩,λ_=>?_,λhd=>(by cases hd),⟨λe=>e,λl hl=>(by cases hl)⟩,λl m hl=>(by cases hl),hR,by simp only[RT],hw,λhd=>(by cases hd),Fr.refl _ _ _,hB,gF _ _,rfl,rfl,rfl⟩;simp only[ah,ho,k1,k4,k3,hc.look x l,cn,JY,Bv];rfl
    cases h
   cases h
  cases h
 .rename_i t m k y ho;split at h
  .rename_i id u h1 h2 h5;split at h
   .rename_i kt l h3;split at h;.rename_i x h4;cases h;obtain⟨d,k1,k2⟩:=bE hR.env h1;cases d<;>simp only[RT]at k2;rename_i iT;have k3:S[iT]? =some (.map (sE kt l)):=hR.mp id _ h3 iT k2;have k4:valOf (jr env) k=some (mM kt x):=gh hR.env (by rw[h2];exact P0 h4);have k5:valOf (jr env) y=some (.bool true):=gh hR.env (by rw[h5];rfl);obtain⟨r,k6,k7⟩:=hc.find x l;refine⟨bF,S.set iT (.map (sE kt (fW kt x l))),ι,w,.unk,te,_,⟨none,true⟩,⟨none,true⟩,λ_=>?_,λhd=>(by cases hd),⟨λe=>e,λl hl=>(by cases hl)⟩,λl m hl=>(by cases hl),LR hR k2 h3,by simp only[RT],hw,λhd=>(by cases hd),AD k2,abf hB h3,Ay k3 (λe=>by cases e),rfl,rfl,rfl⟩;simp only[ah,ho,k1,k4,k5,k3,k6,k7,ay]
    cases h
   cases h
  cases h
 cases h
end Go.Tv
namespace Go.Tv
open Go Go.Di Go.Proofs
def kD(tS:List TB)(g:Nat)(t:TT):Option (Nat×List t.den×Bool):=
 match tS[g]? with
 |some (.rows t' e l z)=>if h:t'=t then some (e,h▸l,z)else none
 |_=>none
theorem lJ{tS:List TB}{g:Nat}{t:TT}{e:Nat}{l:List t.den}{z:Bool}(h:kD tS g t=some (e,l,z)):tS[g]? =some (.rows t e l z):=by
 unfold kD at h;split at h
 .rename_i t' e' l' z' hg;split at h;.rename_i ht;subst ht;cases h;exact hg
  cases h
 cases h
section
variable (ty:fR) (tt:TypeId->Option TT)
def JX(te:List TV)(tS:List TB)(o:Oper):Option (TV×Nat×Prop):=
 match o.op with
 |.indexAddr t x i=>match ty t,fK te x,HQ te i with
  |some ⟨.slice _ s _ _,_,_⟩,some (.so g k),some n=>match kD tS g k with
   |some (_,l,_)=>if k.size==s then some (.sp g k n.toNat 0,g,0<=n/\n<(l.length:Int))else none
   |none=>none
  |_,_,_=>none
 |.fieldAddr t x f=>match ty t,fK te x with
  |some ⟨.struct fs,_,_⟩,some (.sp g k i off)=>match fs[f]? with
   |some (o,s,_)=>if 0<s then some (.sp g k i (off+o),g,True)else none
   |none=>none
  |_,_=>none
 |.load t a=>match ty t,fK te a with
  |some d,some (.sp g k i off)=>match kD tS g k with
   |some (_,l,_)=>(wH d.k.isAgg d.size (k.cells (l.getD i k.dft)) off).map λv=>(fM tt t v,g,True)
   |none=>none
  |_,_=>none
 |.call {callee:=.builtin .len,args,argTypes}=>match args.toList,argTypes.toList with
  |[x],[t]=>match ty t,fK te x with
   |some ⟨.slice _ _ _ _,_,_⟩,some (.so g k)=>match kD tS g k with
    |some (_,l,_)=>some (.val (.int .i64 (l.length:Nat)),g,True)
    |none=>none
   |_,_=>none
  |_,_=>none
 |_=>none
def Um(te:List TV)(tS:List TB)(o:Oper):Option (Nat×List TB):=
 match o.op with
 |.store t a x=>match ty t,fK te a,(fK te x).map (fM tt t)with
  |some d,some (.sp g k i off),some v=>match kD tS g k with
   |some (e,l,false)=>if v.DJ&&v.cells.length==d.size then match MA (k.cells (l.getD i k.dft)) off v.cells with
     |some cs=>match k.of cs with
      |some (y,[])=>some (g,tS.set g (.rows k e (l.set i y) false))
      |_=>none
     |none=>none
    else none
   |_=>none
  |_,_,_=>none
 |_=>none
def Uv:TV->Bool
 |.ax=>true
 |.sl _ [] .full=>true
 |_=>false
def Ul(te:List TV)(tS:List TB)(o:Oper)(nT:Nat):Option (TV×List TV×List TB×Prop):=
 match o.op with
 |.makeSlice t a b=>match ty t,HQ te a,HQ te b,tt t with
  |some ⟨.slice e s lR agg,_,_⟩,some n,some m,some (.sl k)=>match ty e with
   |some ⟨_,_,some z⟩=>match k.of (z.map tH)with
    |some (x,[])=>if decide (0<s)&&k.size==s&&k.agg==agg&&(agg||s==1)&&decide (lR<=100000)then
      some (.so nT k,te,oG tS nT (.rows k e (List.replicate n.toNat x) false),m=n/\0<=n/\n<=1000000000)else none
    |_=>none
   |_=>none
  |_,_,_,_=>none
 |.buildSlice t n ps=>match ty.h o with
  |1=>match ty t,Ax te ps.toList,tt t with
   |some ⟨.slice e s _ agg,_,_⟩,some l,some (.sl k)=>match ty e with
    |some ⟨_,_,some z⟩=>if decide (0<s)&&decide (n*s<=16777216)&&l.length==n&&z.length==s&&k.size==s&&k.agg==agg&&(agg||s==1)then
      (DG k 0 l).map λw=>(.so nT k,te,oG tS nT (.rows k e w false),True)
     else none
    |_=>none
   |_,_,_=>none
  |_=>none
 |.call {callee:=.builtin .append,args,argTypes}=>match args.toList,argTypes.toList with
  |[x,y],[t,u]=>if t=u then match fK te x with
   |some (.so g k)=>match ty t,(fK te y).map (fM tt t)with
    |some ⟨.slice e s lR agg,_,_⟩,some (.sl k' m _)=>if h:k'=k then match kD tS g k,ty e with
      |some (e',l,false),some ⟨_,_,some _⟩=>if e'==e&&k.size==s&&k.agg==agg&&decide (lR<=100000)then
       some (.so g k,kB g te,(tS.map (qp g)).set g (.rows k e (l++(h▸m)) false),l.length+m.length<=1000000000)else none
      |_,_=>none
     else none
    |_,_=>none
   |some v=>match ty.h o with
    |1=>match ty t,(fK te y).map (fM tt t)with
     |some ⟨.slice e s lR agg,_,_⟩,some (.sl k' (a::m) _)=>match ty e with
      |some ⟨_,_,some _⟩=>if Uv v&&decide (0<s)&&k'.size==s&&k'.agg==agg&&(agg||s==1)&&decide (lR<=100000)then
       some (.so nT k',te,oG tS nT (.rows k' e (a::m) false),(a::m).length<=1000000000)else none
      |_=>none
     |_,_=>none
    |_=>none
   |none=>none
   else none
  |_,_=>none
 |_=>none
end
variable {P:Program} {ty:fR} {tt:TypeId->Option TT} {ι ι' w:kY} {S S':ai} {te mI:List TV} {env:List DV} {tS iM:List TB} {aK:bR} {call:bt} {yf:ej} {o:Oper} {aF nT:Nat} {B:List Nat} {ops:Array Oper}
theorem xY{t:TT}:∀{l:List t.den}{ds:List DV}{i:Nat},fO t l ds->i<l.length->∃pre c post,ds=pre++c++post/\pre.length=i*t.size/\CR t (l.getD i t.dft) c/\∀y c',CR t y c'->fO t (l.set i y) (pre++c'++post)
 |[],_,_,_,h=>by simp at h
 |x::l,ds,i,hf,h=>by
  simp only[fO]at hf;obtain⟨c,m,rfl,h1,h2⟩:=hf;cases i with
  |zero=>exact⟨[],c,m,rfl,by simp,h1,λy c' hc=>by simp only[List.set_cons_zero,fO];exact⟨c',m,rfl,hc,h2⟩⟩
  |succ i=>obtain⟨pre,c1,post,rfl,k1,k2,k3⟩:=xY (i:=i) h2 (by simpa using h);refine⟨c++pre,c1,post,by simp,by rw[bU,ru h1,k1,jX,Nat.one_mul,nF],by simpa using k2,λy c' hc=>?_⟩;simp only[List.set_cons_succ,fO];exact⟨c,pre++c'++post,by simp,h1,k3 y c' hc⟩
theorem Lj{t:TT}:∀{l m:List t.den}{ds es:List DV},fO t l ds->fO t m es->fO t (l++m) (ds++es)
 |[],_,ds,_,h,k=>by simp only[fO]at h;subst h;exact k
 |x::l,m,ds,es,h,k=>by simp only[fO]at h;obtain⟨c,r,rfl,h1,h2⟩:=h;simp only[nH,fO];exact⟨c,r++es,by simp,h1,Lj h2 k⟩
theorem El{t:TT}{x:t.den}{c:List DV}(h:CR t x c):∀n,fO t (List.replicate n x) (List.replicate n c).flatten
 |0=>by simp[fO]
 |n+1=>by simp only[zb,List.flatten_cons,fO];exact⟨c,_,rfl,h,El h n⟩
theorem tn{t:TT}{agg:Bool}:∀{l:List t.den}{rows:List DV},fC (CR t) agg l rows->fO t l (flat rows)
 |[],[],_=>by simp[flat,fO]
 |x::l,r::rows,h=>by simp only[flat,cT,fO];exact⟨r.cells,_,rfl,h.1.1,tn h.2⟩
theorem wY{t:TT}:∀{qs:List (Nat×DV)}{i:Nat}{l:List t.den},Gp t i qs l->fO t l (jE qs)
 |[],_,[],_=>by simp[jE,fO]
 |(j,d)::qs,i,x::l,h=>by obtain⟨⟨rfl,hc⟩,h⟩:=h;simp only[jE,cT,fO];exact⟨d.strip.cells,_,rfl,hc,wY h⟩
theorem Eu:∀{t:TT}{x:t.den}{c:List DV},CR t x (c.map DV.aO)->c.all DV.ck=true->CR t x c
 |.int _,_,c,h,hp=>by simp only[CR]at h⊢;obtain⟨d,rfl⟩:∃d,c=[d]:=List.length_eq_one_iff.1 (by have:=congrArg List.length h;simpa using this);cases d<;>simp_all [DV.aO]
 |.bool,_,c,h,hp=>by simp only[CR]at h⊢;obtain⟨d,rfl⟩:∃d,c=[d]:=List.length_eq_one_iff.1 (by have:=congrArg List.length h;simpa using this);cases d<;>simp_all [DV.aO]
 |.str,_,c,h,hp=>by simp only[CR]at h⊢;obtain⟨d,rfl⟩:∃d,c=[d]:=List.length_eq_one_iff.1 (by have:=congrArg List.length h;simpa using this);cases d<;>simp_all [DV.aO]
 |.unit,_,c,h,_=>by simp only[CR]at h⊢;simpa using h
 |.pair a b,x,c,h,hp=>by simp only[CR]at h⊢;obtain⟨c1,c2,e,h1,h2⟩:=h;obtain⟨d1,d2,rfl,rfl,rfl⟩:=List.map_eq_append_iff.1 e;rw[oV,aC]at hp;exact⟨d1,d2,rfl,Eu h1 hp.1,Eu h2 hp.2⟩
 |.sl t,l,c,h,hp=>by
  simp only[CR]at h⊢;obtain⟨rows,f,e,h⟩:=h;obtain⟨d,rfl⟩:∃d,c=[d]:=List.length_eq_one_iff.1 (by have:=congrArg List.length e;simpa using this);cases d<;>simp[DV.aO]at e;rename_i r tok f';obtain⟨rfl,-⟩:=e;cases tok with
  |some=>simp[DV.ck]at hp
  |none=>exact⟨r,f',rfl,h⟩
theorem FM(d:DV):d.aO.aO=d.aO:=by cases d<;>rfl
theorem Ji{v:TV}{d:DV}(hk:v.DJ=true)(h:RT ι S v d):d.strip.cells=d.cells.map DV.aO:=by cases v<;>cases d<;>simp only[RT]at h<;>first|(cases hk;done)|rfl
theorem RP{agg:Bool}{n off:Nat}{pre c post:List DV}{d:DV}(h:pO agg n c off=some d):pO agg n (pre++c++post) (pre.length+off)=some d:=by
 unfold pO at h⊢;cases agg with
 |true=>
  simp only[if_true,af]at h⊢;obtain⟨cs,h1,rfl⟩:=h;refine⟨cs,?_,rfl⟩;unfold TU at h1⊢;split at h1;.rename_i hle;cases h1;rw[if_pos (by simp;omega),jm,y6,j3 (by omega),gZ,qN,List.drop_append_of_le_length (by omega),List.take_append_of_le_length (by simp;omega)]
  cases h1
 |false=>simp only[aI,if_false]at h⊢;have hlt:=(aA.1 h).1;rw[jm,iI (by omega),qN,ee hlt];exact h
theorem WS{off:Nat}{pre c post cs c':List DV}(h:wA c off cs=some c'):wA (pre++c++post) (pre.length+off) cs=some (pre++c'++post):=by
 unfold wA at h⊢;split at h
 .rename_i hle;cases h;have e1:(pre++c++post).take (pre.length+off)=pre++c.take off:=by rw[jm,List.take_append,List.take_of_length_le (by omega),qN,List.take_append_of_le_length (by omega)]
  have e2:(pre++c++post).drop (pre.length+off+cs.length)=c.drop (off+cs.length)++post:=by rw[jm,eE,y6,j3 (by omega),gZ,qN,List.drop_append_of_le_length (by omega)]
  rw[if_pos (by simp;omega),e1,e2];simp[jm]
 cases h
theorem abt(h:bT ι te tS env S){g i off:Nat}{t:TT}{e:Nat}{l:List t.den}{z:Bool}{d:DV}(hg:tS[g]? =some (.rows t e l z))(hd:RT ι S (.sp g t i off) d):∃id ds,d=.gu id l.length (i*t.size+off)/\ι g=some id/\S[id]? =some (.op e t.size ds z)/\CE S id l.length=some (e,t.size,ds,z)/\fO t l ds/\i<l.length/\0<t.size/\(t.agg||t.size==1)=true:=by
 cases d<;>simp only[RT]at hd;rename_i id n sD;obtain⟨h1,rfl,e',s',l',z',h2,h3,h4⟩:=hd;obtain⟨q0,q1,ds,q2,q3⟩:=h.mp g _ hg id h1;rw[h2]at q2;cases q2;have hl:=iV q3;have hn:n=l.length:=Nat.eq_of_mul_eq_mul_right q0 (h3.trans hl);subst hn;refine⟨id,l',rfl,h1,h2,?_,q3,?_,q0,q1⟩;.unfold CE;rw[h2];simp only[h3,if_true]
 rw[<-h3]at h4;have:i*t.size<l.length*t.size:=by omega
 exact Nat.lt_of_mul_lt_mul_right this
theorem EP{v:TV}{g:Nat}{c:Prop}(h:JX ty tt te tS o=some (v,g,c))(hc:c)(hR:bT ι te tS env S):∃d id,(∀aF,ah P ty aK call yf (jr env) o S aF=some (d,S))/\RT ι S v d/\ι g=some id/\((∃t a f,o.op=.fieldAddr t a f/\∃n off,jr env a=some (.gu id n off))\/(∃t a i,o.op=.indexAddr t a i/\∃n ag,jr env a=some (.jS id n ag))\/(∃t a,o.op=.load t a/\∃n off,jr env a=some (.gu id n off))\/∃args ats,o.op=.call {callee:=.builtin .len,args,argTypes:=ats}):=by
 unfold JX at h;split at h
 .rename_i t x i ho;split at h
  .rename_i e s lR agg sz z g' k n h1 h2 h3;split at h
   .rename_i e' l zz h4;split at h
    .rename_i h5;cases h;have hg:=lJ h4;obtain⟨d,k1,k2⟩:=bE hR.env h2;obtain⟨id,ds,rfl,m1,m2,m3,m4,m5,m6⟩:=F8 hR hg k2 rfl;have hs:k.size=s:=by simpa using h5
     have hl:=iV m4;have hi:intOf (jr env) i=some n:=qE hR.env h3;obtain⟨c1,c2⟩:=hc;refine⟨.gu id l.length (n.toNat*s),id,λaF=>?_,?_,m1,.inr (.inl ⟨t,x,i,ho,_,_,k1⟩)⟩;.simp only[ah,ho,h1,k1,hi,m3];rw[if_pos ⟨c1,by omega,hs⟩]
     simp only[RT];refine⟨m1,by rw[hs];rfl,e',k.size,ds,zz,m2,hl.symm,?_⟩;rw[hl,<-mo];exact fU _ (by omega)
    cases h
   cases h
  cases h
 .rename_i t x f ho;split at h
  .rename_i fs sz z g' k i off h1 h2;split at h
   .rename_i of s ag hf;split at h
    .rename_i hs;cases h;obtain⟨d,k1,k2⟩:=bE hR.env h2;cases d<;>simp only[RT]at k2;rename_i id n sD;obtain⟨m1,rfl,e',s',l',z',m2,m3,m4⟩:=k2;have hop:CE S id n=some (e',s',l',z'):=by unfold CE;rw[m2];simp only[m3,if_true]
     refine⟨.gu id n (i*k.size+off+of),id,λaF=>?_,?_,m1,.inl ⟨t,x,f,ho,_,_,k1⟩⟩;.simp only[ah,ho,h1,k1,hf,hop,if_pos hs]
     simp only[RT];exact⟨m1,by omega,e',s',l',z',m2,m3,m4⟩
    cases h
   cases h
  cases h
 .rename_i t a ho;split at h
  .rename_i td g' k i off h1 h2;split at h;.rename_i e' l zz h4;simp only[af,az]at h;obtain⟨u,h5,rfl,rfl,-⟩:=h;have hg:=lJ h4;obtain⟨d,k1,k2⟩:=bE hR.env h2;obtain⟨id,ds,rfl,m1,m2,m3,m4,m5,m6,m7⟩:=abt hR hg k2;obtain⟨pre,c,post,rfl,q1,q2,-⟩:=xY m4 m5;obtain⟨d,q3,q4⟩:=rO (rT (ι:=ι) (S:=S) q2) h5;refine⟨d,id,λaF=>?_,cZ q4,m1,.inr (.inr (.inl ⟨t,a,ho,_,_,k1⟩))⟩;simp only[ah,ho,k1,lE,h1,m3];rw[<-q1,RP q3];rfl
   cases h
  cases h
 .rename_i args ats ho;split at h
  .rename_i x t ha ht;split at h
   .rename_i e s lR agg sz z g' k h1 h2;split at h;.rename_i e' l zz h4;cases h;have hg:=lJ h4;obtain⟨d,k1,k2⟩:=bE hR.env h2;obtain⟨id,ds,rfl,m1,m2,m3,m4,m5,m6⟩:=F8 hR hg k2 rfl;refine⟨.val (.int .i64 (l.length:Nat)),id,λaF=>?_,by simp only[RT],m1,.inr (.inr (.inr ⟨_,_,ho⟩))⟩;simp only[ah,ho,ha,ht,h1,k1]
    cases h
   cases h
  cases h
 cases h
theorem E2{v:TV}{g:Nat}{c:Prop}(h:JX ty tt te tS o=some (v,g,c))(hc:c)(dr:Bool):Does P ty aK call yf B o nT te tS dr λv' bX bN ft=>v'=v/\bX=te/\bN=tS/\ft=⟨some [g],false⟩:=by
 intro ι w env S aF hR hB hw hT hn hS;obtain⟨d,id,h1,h2,h3,h4⟩:=EP (P:=P) (aK:=aK) (call:=call) (yf:=yf) h hc hR;have hl:∃l,aM P ty aK call yf (jr env) o S aF=some (d,S,⟨some l,false⟩)/\∀j∈l,j=id:=by
  rcases h4 with ⟨t,a,f,ho,n,off,ha⟩|⟨t,a,i,ho,n,ag,ha⟩|⟨t,a,ho,n,off,ha⟩|⟨args,ats,ho⟩;.exact⟨[id],by simp only[aM,ho,ha,h1,ay],by simp⟩
  .exact⟨[id],by simp only[aM,ho,ha,h1,ay],by simp⟩
  .exact⟨[id],by simp only[aM,ho,ha,h1,ay],by simp⟩
  exact⟨[],by simp only[aM,ho,h1,ay],by simp⟩
 obtain⟨l,h5,h6⟩:=hl;refine⟨d,S,ι,w,v,te,tS,⟨some l,false⟩,⟨some [g],false⟩,λ_=>h1 aF,λ_=>h5,⟨λe=>e,λl' iN=>?_⟩,λl' m _ hm j hj=>?_,hR,h2,hw,λ_ _ _=>rfl,Fr.refl _ _ _,hB,gF _ _,rfl,rfl,rfl,rfl⟩;.cases iN;exact⟨l,rfl,λj hj=>⟨g,by simp,by rw[h6 j hj];exact hw _ _ h3⟩⟩
 cases hm;exact .inr ⟨g,by rw[h6 j hj];exact h3⟩
theorem VX{k:Nat}{v:TV}{g:Nat}{c:Prop}{Q:List TV->Prop}(ho:ops[k]? =some o)(hw:ez ops te o=some true)(h:JX ty tt te tS o=some (v,g,c))(hc:c)(hq:WQ P ty aK call yf ops tS (k+1) (j8 te o.dst v) Q):WQ P ty aK call yf ops tS k te Q:=by
 intro ι env S hR;obtain⟨d,id,h1,h2,h3,h4⟩:=EP (P:=P) (aK:=aK) (call:=call) (yf:=yf) h hc hR;obtain⟨aL,bX,n1,n2,n3⟩:=hq ι (ku env o.dst d) S (oL hR h2 _);refine⟨aL,bX,?_,n2,n3⟩;rw[oR ho];have hq:dD P ty aK call yf (jr env) o S=some d:=by rcases h4 with ⟨t,a,f,ho,n,off,ha⟩|⟨t,a,i,ho,n,ag,ha⟩|⟨t,a,ho,n,off,ha⟩|⟨args,ats,ho⟩<;>simp only[dD,ho,h1,ay]
 simp only[qU,iJ hR.env hw,if_true,hq,n1]
end Go.Tv
