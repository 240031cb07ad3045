import Derived.Test.YtadeehilamokkaaGreatDoorPk05
import Derived.Test.YtadeehilamokkaaGreatDoorChecked
import Derived.KernelRfl
import Derived.Laws.BitsLemmas
import Derived.Laws.StructEq
namespace Go.Tv
open Go Go.Di Go.Proofs
abbrev kP:TT:=.int .i64
abbrev fH:TT:=.sl kP
abbrev cE:TT:=.pair fH (.pair fH (.pair kP (.pair fH .unit)))
abbrev N4:TT:=.pair kP (.pair kP .unit)
abbrev KF:TT:=.pair kP (.pair kP (.pair kP .unit))
abbrev agB:TT:=.pair .bool (.pair KF .unit)
abbrev aiw:TT:=.pair fH (.pair fH (.pair kP (.pair fH (.pair fH (.pair fH (.pair fH (.pair fH (.pair fH (.pair fH (.pair fH (.pair fH .unit)))))))))))
def ttL:List (Nat×TT):=[(3,kP),(4,.bool),(5,.int .u8),(33,.sl (.int .u8)),(35,.sl .str),(29,kP),(23,fH),(42,cE),(22,.sl cE),(51,N4),(84,.int .u64),(79,KF),(56,.sl KF),(70,KF),(65,.sl KF),(46,.sl fH),(9,.str),(177,agB),(174,agB),(175,.sl .bool),(126,.sl aiw)]
def Zk(t:TypeId):cJ:=(ttL.find? λp=>p.1==t).map (·.2)
abbrev vv:=TV.val
abbrev vi:=Value.int IntKind.i64
abbrev vb:=Value.bool
abbrev jE(n:Int):TV:=.val (.int .i64 n)
abbrev tQ(b:Bool):TV:=.val (.bool b)
noncomputable abbrev Tp:Program:=Tryz.prog
noncomputable abbrev Ty:fo:=TyH
def LL:Nat:=1001000
structure RX (cF:bT):Prop where
 other:∀f a,f≠64->f≠124->f≠7->f≠10->f≠14->cF f a=none
 fit:cF 7 []=some (.val (.bool true))
section
variable (cF:bT) (n:Nat)
noncomputable abbrev Ka:bT:=Dr Tp Ty cF LL n
noncomputable abbrev DZ:bg:=BI Tp Ty cF LL n
noncomputable abbrev yfT:dx:=yfN Tp Ty cF LL n
end
theorem Ar{n:Int}(h:-9223372036854775808<=n)(h':n<=9223372036854775807):IntKind.i64.wrap n=n:=by rw[IntKind.wrap_i64];omega
end Go.Tv
namespace Go.Tv
open Go Go.Di
def DI(aD:bT)(call:bg)(g:FuncId)(targs:cp)(Q:cp->Prop):Prop:=
 ∀bV S,cq gI S targs bV->(∀ds,cq gI [] targs ds->aD g ds=none)/\∃S' id ds ts,call g bV S=some (.ptr id 0,S')/\¬Lv S id/\S'[id]? =some (.cells ds)/\cq gI [] ts ds/\eM ts=[]/\(∀k',Lv S k'->S'[k']? =S[k']?)/\Nn S.length S S'/\Q ts
theorem DI.mono {aD:bT}{call:bg}{g:FuncId}{targs:cp}{Q Q':cp->Prop}(h:DI aD call g targs Q)(hq:∀v,Q v->Q' v):DI aD call g targs Q':=λbV S hd=>by obtain⟨h0,S',id,ds,ts,h1,h2,h3,h4,h5,h6,h7,h8⟩:=h bV S hd;exact⟨h0,S',id,ds,ts,h1,h2,h3,h4,h5,h6,h7,hq _ h8⟩
variable {P:Program} {ty:fo} {tt:TypeId->cJ} {ι ι' w:kW} {S S':aj} {te mh:cp} {env:cn} {tS iq:cx} {aD:bT} {call:bg} {yf:dx} {o:Oper} {aB nT:Nat} {B:cy} {r:TR} {ops:Array Oper}
theorem Pa{f:Operand}{args:Array Operand}{argTypes:Array TypeId}{g:FuncId}{fs cs xs targs:cp}{Q:cp->Prop}(hop:o.op=.call {callee:=.value f,args,argTypes})(hh:ty.h o≠1)(hf:eL te f=some (.fn g fs cs))(ha:lD te args.toList=some xs)(hp:(fs++xs++cs).all eu=true)
  (hn:bL (fM tt fs argTypes) (fs++xs++cs)=targs) (hs:DI aD call g targs Q):Does P ty aD call yf B o nT te tS false λv bS bK _=>∃ts,Q ts/\v=.ptr nT 0/\bS=te/\bK=nS tS nT (.cells ts):=by
 intro ι w env S aB hR hB hw hT Dh hS;obtain⟨xe,iB,F5,k1,k2,k3⟩:=ig hR.env hf ha;obtain⟨k4,k5⟩:=jy (ts:=fM tt fs argTypes) (ι':=gI) (S':=[]) hp k3;have k6:=lB (ts:=fM tt fs argTypes) (ι':=gI) (S':=S) hp k3;rw[hn]at k5 k6;obtain⟨h0,S',id,ds,ts,m1,m2,m3,m4,m5,m6,m7,m8⟩:=hs _ S k6;have hne:∀{k k':Nat},ι k=some k'->k'≠id:=λhk e=>m2 (e▸hR.live hk);have ye:ι nT=none:=hR.new hT;have K:iY ι S (upd ι nT id) S' λ_=>False:=λk k' _ hk=>by
  have h1:k≠nT:=by rintro rfl;rw[ye]at hk;cases hk
  exact⟨by simp only[upd,h1,if_false];exact hk,dz (m6 k' (hR.live hk))⟩
 refine⟨.ptr id 0,S',upd ι nT id,λj=>if j=id then some nT else w j,.ptr nT 0,te,nS tS nT (.cells ts),⟨none,true⟩,⟨none,true⟩,λ_=>?_,λe=>aE,⟨λe=>e,λl hl=>bc⟩,λl m hl=>bc,?_,by simp[RT,upd],?_,?_,?_,jl hB hT,⟨m7.1,λj hj dU=>m7.2 j (by have:=(aI.1 dU).1;omega) dU⟩,ts,m8,rfl,rfl,rfl⟩;simp only[ah,hop,k1,k2,wN,k4,if_true,h0 _ k5,m1];refine⟨bn K _ _ hR.env,λk l hk=>?_,λk e s hk t ht=>?_,λk k' hk=>?_,λi j k' hi hj=>?_,λk b hk t ht=>?_⟩;rw[cM hT]at hk;split at hk;rename_i e;subst e;cases hk;exact⟨id,ds,by simp[upd],m3,jq _ _ m5 m4⟩;rename_i e;obtain⟨k',iu,h1,h2,h3⟩:=hR.cells k l hk;exact⟨k',iu,by simp only[upd,e,if_false];exact h1,by rw[m6 k' (hR.live h1)];exact h2,bn K _ _ h3⟩;rw[cM hT]at hk;split at hk;cases hk;rename_i e';simp only[upd,e',if_false]at ht;obtain⟨n,h1⟩:=hR.own k e s hk t ht;exact⟨n,by rw[m6 t (hR.live ht)];exact h1⟩;rw[cM hT];split
 grind
 rename_i e;simp only[upd,e,if_false]at hk;exact hR.qH k k' hk;unfold upd at hi hj;split at hi<;>split at hj;omega
 grind
 grind
 exact hR.inj i j k' hi hj;rw[cM hT]at hk;split at hk;cases hk;trivial
 rename_i e';simp only[upd,e',if_false]at ht;rw[m6 t (hR.live ht)];exact hR.mp k b hk t ht
 intro a b pV;unfold upd at pV;split at pV
 grind
 simp only[hne pV,if_false];exact hw _ _ pV
 grind
 refine⟨λk' hl _=>m6 k' hl,λk k' hk=>?_,λk hk=>?_⟩;unfold upd at hk;split at hk
 grind
 grind
 have:=ng hB hT;unfold upd;rw[if_neg (λe:k=nT=>this (e▸hk))]
def aes(ty:fo)(rs:List ResultVar)(nM:List cJ)(Q:cp->Prop)(e:DX)(te:cp)(tS:cx):Prop:=
 (match e with|.exit _=>False|_=>True)/\∃ts,xo ty te tS rs=some [.ptr 0 0]/\tS[0]? =some (.cells ts)/\ts.all eu=true/\eM (bL nM ts)=[]/\Q (bL nM ts)
theorem Yy{cF:bT}{L n:Nat}{f:FuncId}{fn:Func}{c:Code}{targs:cp}{nM:List cJ}{Q:cp->Prop}(hf:P.funcs[f]? =some fn)(hb:fn.body=some c)(ht:∀a,cF f a=none)
  (h:WT P ty (Dr P ty cF L n) (BI P ty cF L n) (yfN P ty cF L n) [] L f false c (targs++List.replicate (fn.ntmps-targs.length) .unk) [] (aes ty fn.results.toList nM Q)):DI (Dr P ty cF L (n+1)) (BI P ty cF L (n+1)) f targs Q:=by
 have key:∀bV S,cq gI S targs bV->∃S' id ds ts,(dZ P ty cF L (n+1)).1 f bV S=some (.ptr id 0,S')/\¬Lv S id/\S'[id]? =some (.cells ds)/\cq gI [] ts ds/\eM ts=[]/\(∀k',Lv S k'->S'[k']? =S[k']?)/\Nn S.length S S'/\Q ts:=by
  intro bV S hd;have hlen:=gY hd;have hR:bO gI (targs++List.replicate (fn.ntmps-targs.length) .unk) [] (bV++List.replicate (fn.ntmps-bV.length) bD) S:=by refine⟨eH hd (by rw[hlen];exact yI _ _),λk l hk=>(by simp at hk),λk e s hk=>(by simp at hk),λk k' hk=>(by cases hk),λi j k' hi=>(by cases hi),λk b hk=>(by simp at hk)⟩
  obtain⟨e,aL,S',ι',bS,bK,h1,h2,h3,h4,h5,h6⟩:=h gI _ S hR (λk hk=>(by cases hk));obtain⟨h6,ts,h7,h8,h9,wz,Ge⟩:=h6;obtain⟨ds,k1,k2⟩:=yJ h2 h7;obtain⟨d,m',rfl,k3,k4⟩:=ax k2;rw[aO k4]at k1;cases d<;>simp only[RT]at k3;rename_i id off;obtain⟨k3,rfl⟩:=k3;obtain⟨iG,iu,m1,m2,m3⟩:=h2.cells 0 ts h8;rw[k3]at m1;cases m1;refine⟨S',id,iu,bL nM ts,?_,?_,m2,lB h9 m3,wz,λk' hl=>h4.rest k' hl (λk hk=>by cases hk),h5,Ge⟩;simp only[dZ,hf,wO,hb];have M7:cI P ty (mo cF (dZ P ty cF L n).1) (dZ P ty cF L n).1 (dZ P ty cF L n).2 L f false c (bV++List.replicate (fn.ntmps-bV.length) bD) S=some (e,aL,S'):=h1;rw[M7];cases e with
  |normal=>simp only[k1,ay,oneOf]
  |ret=>simp only[k1,ay,oneOf]
  |exit id=>exact h6.elim
  rcases h4.ours 0 id k3 with ⟨j,hj⟩|hl;cases hj;exact hl
 intro bV S hd;refine⟨λds hds=>?_,key bV S hd⟩;obtain⟨S',id,iu,ts,k1,-⟩:=key ds [] hds;simp only[Dr,mo,ht,tT,Iq,s9,tA,iK,yg,k1,DV.strip,DV.cZ,DV.pure,DV.jW,aJ,if_false]
end Go.Tv
namespace Go.Tv
open Go Go.Di Go.Proofs
variable {P:Program}
theorem ez{α β:Type}(s:Sem α)(f:α->Sem β):bN P (s>>=f)=(bN P s).bind λa=>bN P (f a):=by
 change bN P (s.bind f)=_;cases s with
 |pure a=>rfl
 |program k=>
  simp only[Sem.bind,bN];generalize k P=s';induction s' with
  |pure a=>rfl
  |program k ih=>simp only[Sem.bind,bN];exact ih P
  |_=>simp only[Sem.bind,bN,Option.bind_none]
 |_=>simp only[Sem.bind,bN,Option.bind_none]
theorem xK{α:Type}(a:α):bN P (pure a:Sem α)=some a:=rfl
theorem nv:bN P program=some P:=rfl
theorem mS{t:TypeId}{d:TypeDesc}(h:P.underlying t=some d):bN P (underlying t)=some d:=by unfold underlying;rw[ez,nv];simp only[bQ,h];rfl
theorem S6(d:Nat)(t:TypeId)(k k':IntKind)(a b:Int)(h:P.underlying t=some (.int k')):bN P (Op.equalIn (d+1) t (.int k a) (.int k b))=some (a==b):=by simp only[Op.equalIn,ez,mS h,bQ,if_true];rfl
theorem SZ{α:Type}{c:Prop}[Decidable c]{a b:Sem α}:bN P (if c then a else b)=if c then bN P a else bN P b:=by split<;>rfl
theorem sR(d:Nat)(t:TypeId)(xs ys:Array Value)(ht:P.underlying t=some (.struct (P.fieldsOf t)))(hp:P.stoodInHeld t=false):
  bN P (Op.equalIn (d+1) t (.agg xs) (.agg ys))=bN P (Op.eqFields d xs ys (P.fieldsOf t).toList):=by
 simp only[Op.equalIn,ez,mS ht,bQ,nv,hp,aJ,if_false];rw[<-Array.forIn_toList];generalize(P.fieldsOf t).toList=fs;clear ht;induction fs with
 |nil=>rfl
 |cons f fs ih=>
  simp only[List.forIn_cons,Op.eqFields,ez,SZ];split;generalize bN P (part f.type xs f.offset)=r1;cases r1 with
  |none=>rfl
  |some a=>
   generalize bN P (part f.type ys f.offset)=r2;cases r2 with
   |none=>rfl
   |some b=>
    simp only[bQ];generalize bN P (Op.equalIn d f.type a b)=r3;cases r3 with
    |none=>rfl
    |some r=>cases r;simp only[bQ,yV,if_true,xK];simp only[bQ,fR,aJ,if_false,xK];exact ih
  simp only[xK,bQ];exact ih
theorem ab6{d:Nat}{xs ys:Array Value}:bN P (Op.eqFields d xs ys [])=some true:=rfl
theorem ach{t:TypeId}{xs ys:Array Value}{b:Bool}(ht:P.underlying t=some (.struct (P.fieldsOf t)))(hp:P.stoodInHeld t=false)(hm:P.eqGuardType P.depth t=false)(hf:bN P (Op.eqFields 9999 xs ys (P.fieldsOf t).toList)=some b)(x y:Operand):
  fG P (do eqGuard .neq t x y (.agg xs) (.agg ys);binOp .neq t (.agg xs) (.agg ys))=some (.val (.bool !b)):=by
 have h1:bN P (eqGuard .neq t x y (.agg xs) (.agg ys))=some ():=by simp only[eqGuard];simp only[fR,aJ,if_false,ez,nv,bQ,hm,yV,if_true];rfl
 have h2:bN P (binOp .neq t (.agg xs) (.agg ys))=some (.bool !b):=by simp only[binOp,ez,Op.equal,Op.maxDepth,sR 9999 t xs ys ht hp,hf,bQ];rfl
 rw[fG,ez,h1,bQ,h2];rfl
variable {ty:fo} {tt:TypeId->cJ} {ι ι' w:kW} {S S':aj} {te mh:cp} {env:cn} {tS iq:cx} {aD:bT} {call:bg} {yf:dx} {o:Oper} {aB nT:Nat} {B:cy} {ops:Array Oper}
end Go.Tv
namespace Go.Tv
open Go Go.Di Go.Proofs
def aaB:(t:TT)->DecidableEq t.den
 |.int _=>inferInstanceAs (DecidableEq Int)
 |.bool=>inferInstanceAs (DecidableEq Bool)
 |.str=>inferInstanceAs (DecidableEq ByteArray)
 |.unit=>inferInstanceAs (DecidableEq Unit)
 |.pair a b=>λx y=>@instDecidableEqProd _ _ (aaB a) (aaB b) x y
 |.sl t=>λx y=>@instDecidableEqList _ (aaB t) x y
def Vf(t:TT)(x:t.den)(l:List t.den):Bool:=l.any λy=>@decide (x=y) (aaB t x y)
def adO(t:TT)(x:t.den)(l:List t.den):List t.den:=bif Vf t x l then l else l++[x]
structure adu (P:Program) (t:TypeId) (kt:TT):Prop where
 look:∀(x:kt.den)(l:List kt.den),bN P (PB t ((CA kt l).map Di.Zl) (J9 kt x) false)=some (.bool (Vf kt x l))
 find:∀(x:kt.den)(l:List kt.den),∃r,bN P (PO t ((CA kt l).map Di.Zl) (J9 kt x))=some r/\Vc (CA kt l) (J9 kt x) (.bool true) r=some (CA kt (adO kt x l))
def aaj(kt:TT)(v:TV):Option kt.den:=
 match v with
 |.agg l=>match iw l,kt.of l with
  |some vs,some (x,[])=>if vs.length=(Gg kt x).length then some x else none
  |_,_=>none
 |_=>none
def adM(P:Program)(tt:TypeId->cJ)(te:cp)(tS:cx)(o:Oper)(nT:Nat):Option (TV×cx×Prop):=
 match o.op with
 |.makeMap t none=>match tt t with
  |some kt=>some (.mp nT,nS tS nT (.map kt []),True)
  |none=>none
 |.lookup t m k false=>match eL te m,eL te k with
  |some (.mp id),some v=>match tS[id]? with
   |some (.map kt l)=>match aaj kt v with
    |some x=>some (.val (.bool (Vf kt x l)),tS,adu P t kt)
    |none=>none
   |_=>none
  |_,_=>none
 |.mapUpdate t m k y=>match eL te m,eL te k,eL te y with
  |some (.mp id),some v,some (.val (.bool true))=>match tS[id]? with
   |some (.map kt l)=>match aaj kt v with
    |some x=>some (.unk,tS.set id (.map kt (adO kt x l)),adu P t kt)
    |none=>none
   |_=>none
  |_,_,_=>none
 |_=>none
theorem Jf:∀{t:TT}{l:cp}{x:t.den}{r:cp}{vs:List Value},t.of l=some (x,r)->iw l=some vs->∃ZE,iw r=some ZE/\vs=Gg t x++ZE
 |.int k,l,x,r,vs,h,hv=>by simp only[TT.of]at h;unfold ofInt at h;split at h;split at h;rename_i hk;subst hk;cases h;simp only[iw,af]at hv;obtain⟨ZE,h1,rfl⟩:=hv;exact⟨ZE,h1,rfl⟩;cases h;cases h
 |.bool,l,x,r,vs,h,hv=>by simp only[TT.of]at h;unfold ofBool at h;split at h;cases h;simp only[iw,af]at hv;obtain⟨ZE,h1,rfl⟩:=hv;exact⟨ZE,h1,rfl⟩;cases h
 |.str,l,x,r,vs,h,hv=>by simp only[TT.of]at h;unfold ofStr at h;split at h;cases h;simp only[iw,af]at hv;obtain⟨ZE,h1,rfl⟩:=hv;exact⟨ZE,h1,rfl⟩;cases h
 |.unit,l,x,r,vs,h,hv=>by simp only[TT.of]at h;cases h;exact⟨vs,hv,rfl⟩
 |.sl t,l,x,r,vs,h,hv=>by simp only[TT.of]at h;unfold aah at h;split at h;simp[iw]at hv;simp[iw]at hv;cases h
 |.pair a b,l,x,r,vs,h,hv=>by simp only[TT.of]at h;split at h;rename_i y m h1;split at h;rename_i z m' h2;cases h;obtain⟨vs1,k1,rfl⟩:=Jf h1 hv;obtain⟨vs2,k2,rfl⟩:=Jf h2 k1;exact⟨vs2,k2,by simp[Gg]⟩;cases h;cases h
theorem QW{kt:TT}{v:TV}{x:kt.den}(h:aaj kt v=some x):fJ v=some (J9 kt x):=by unfold aaj at h;split at h;split at h;rename_i vs y h1 h2;split at h;cases h;obtain⟨ZE,k1,rfl⟩:=Jf h2 h1;cases k1;simp only[fJ,h1,ay,J9,iR];cases h;cases h;cases h
section
variable (P:Program)
def aaA(t:TypeId)(a b:Value):Option Bool:=
 match a,b,P.underlying t with
 |.int k a,.int k' b,some (.int _)=>if k'=k then some (a==b)else none
 |.bool a,.bool b,some .bool=>some (a==b)
 |_,_,_=>none
def Ky(E:TypeId->Value->Value->Option Bool)(xs ys:Array Value):List Field->Option Bool
 |[]=>some true
 |f::fs=>match f.name !="_",bN P (part f.type xs f.offset),bN P (part f.type ys f.offset)with
  |true,some a,some b=>match E f.type a b,Ky E xs ys fs with
   |some u,some r=>some (u&&r)
   |_,_=>none
  |_,_,_=>none
def eqV:Nat->TypeId->Value->Value->Option Bool
 |0,t,a,b=>aaA P t a b
 |n+1,t,a,b=>match a,b with
  |.agg xs,.agg ys=>match P.underlying t,P.stoodInHeld t with
   |some (.struct fs),false=>Ky P (eqV n) xs ys fs.toList
   |_,_=>none
  |a,b=>aaA P t a b
end
section
variable {P:Program}
theorem sP{t:TypeId}{fs:Array Field}(h:P.underlying t=some (.struct fs)):P.underlying t=some (.struct (P.fieldsOf t)):=by
 have:P.fieldsOf t=fs:=by simp only[Program.fieldsOf,h]
 rw[this];exact h
theorem Q9{d:Nat}{t:TypeId}{a b:Value}{r:Bool}(h:aaA P t a b=some r):bN P (Op.equalIn (d+1) t a b)=some r:=by unfold aaA at h;split at h;rename_i k a k' b k2 hu;split at h;rename_i hk;subst hk;cases h;exact S6 d t _ _ a b hu;cases h;rename_i a b hu;cases h;simp only[Op.equalIn,ez,mS hu,bQ];rfl;cases h
theorem EB{E:TypeId->Value->Value->Option Bool}{d:Nat}(hE:∀t a b r,E t a b=some r->bN P (Op.equalIn d t a b)=some r){xs ys:Array Value}:∀{fs:List Field}{b:Bool},Ky P E xs ys fs=some b->bN P (Op.eqFields d xs ys fs)=some b
 |[],_,h=>by cases h;exact ab6
 |f::fs,b,h=>by
  unfold Ky at h;split at h;rename_i a b' hn ha hb;split at h;rename_i u r h1 h2;cases h;have JR:f.name≠"_":=by simpa using hn
  simp only[Op.eqFields,JR,ne_eq,not_false_eq_true,if_true,ez,ha,hb,bQ,hE _ _ _ _ h1];cases u;rfl;simp only[fR,aJ,if_false,Bool.true_and];exact EB hE h2
  cases h;cases h
theorem W8:∀{n d:Nat}{t:TypeId}{a b:Value}{r:Bool},n<d->eqV P n t a b=some r->bN P (Op.equalIn d t a b)=some r
 |0,0,_,_,_,_,hd,_=>ab
 |0,d+1,_,_,_,_,_,h=>Q9 h
 |n+1,0,_,_,_,_,hd,_=>ab
 |n+1,d+1,t,a,b,r,hd,h=>by unfold eqV at h;split at h;rename_i xs ys;split at h;rename_i fs h1 h2;rw[sR d t xs ys (sP h1) h2];simp only[Program.fieldsOf,h1];exact EB (λt a b r h=>W8 ab h) h;cases h;exact Q9 h
end
variable {P:Program} {ty:fo} {tt:TypeId->cJ} {ι ι' w:kW} {S S':aj} {te mh:cp} {env:cn} {tS iq:cx} {aD:bT} {call:bg} {yf:dx} {o:Oper} {aB nT:Nat} {B:cy} {ops:Array Oper}
theorem Mm(h:bO ι te tS env S)(hT:xx tS nT)(hn:yl S aB)(kt:TT):bO (upd ι nT aB) te (nS tS nT (.map kt [])) env (eF S aB (.map [])):=by
 have K:=rK h hT hn (.map []);refine⟨bn K _ _ h.env,λk l hk=>?_,λk e s hk t ht=>?_,λk k' hk=>?_,λi j k' hi hj=>?_,λk b hk t ht=>?_⟩;rw[cM hT]at hk;split at hk;cases hk;rename_i e;obtain⟨k',iu,h1,h2,h3⟩:=h.cells k l hk;exact⟨k',iu,by simp only[upd,e,if_false];exact h1,by rw[bC hn,if_neg (h.dD hn h1)];exact h2,bn K _ _ h3⟩;rw[cM hT]at hk;split at hk;cases hk;rename_i e';simp only[upd,e',if_false]at ht;obtain⟨n,h1⟩:=h.own k e s hk t ht;exact⟨n,by rw[bC hn,if_neg (h.dD hn ht)];exact h1⟩;rw[cM hT];split
 grind
 rename_i e;simp only[upd,e,if_false]at hk;exact h.qH k k' hk;unfold upd at hi hj;split at hi<;>split at hj;omega;cases hi;exact(h.dD hn hj rfl).elim
 cases hj;exact(h.dD hn hi rfl).elim
 exact h.inj i j k' hi hj;rw[cM hT]at hk;split at hk;rename_i e';cases hk;simp only[upd,e',if_true,aF]at ht;subst ht;rw[bC hn,if_pos rfl];exact rfl
 rename_i e';simp only[upd,e',if_false]at ht;rw[bC hn,if_neg (h.dD hn ht)];exact h.mp k b hk t ht
theorem Ml(h:bO ι te tS env S){id iG:Nat}{kt:TT}{l l':List kt.den}(hi:ι id=some iG)(hl:tS[id]? =some (.map kt l)):bO ι te (tS.set id (.map kt l')) env (S.set iG (.map (CA kt l'))):=by
 have hS:S[iG]? =some (.map (CA kt l)):=h.mp id _ hl iG hi;have hlt:=(aI.1 hl).1;have Cw:=(aI.1 hS).1;have K:iY ι S ι (S.set iG (.map (CA kt l'))) λ_=>False:=λa b _ pV=>⟨pV,by
  rw[aN];split;rename_i e1;subst e1;exact vt (by rw[hS];simp) (by rw[hS];simp) (by rw[hS];simp)
  exact dz rfl⟩
 have hg:∀j,(tS.set id (.map kt l'))[j]? =if j=id then some (.map kt l')else tS[j]? :=λj=>by
  rw[aN];by_cases e:j=id
  grind
  grind
 have rT:∀j,j≠iG->(S.set iG (.map (CA kt l')))[j]? =S[j]? :=λj hj=>by rw[aN,if_neg (Ne.symm hj)]
 refine⟨bn K _ _ h.env,λj m hj=>?_,λj e s hj t ht=>?_,λj j' hj=>?_,h.inj,λj b hj t ht=>?_⟩;rw[hg]at hj;split at hj;cases hj;rename_i e;obtain⟨j',M8,h1,h2,h3⟩:=h.cells j m hj;exact⟨j',M8,h1,by rw[rT j' λe1=>e (h.inj _ _ _ (e1▸h1) hi)];exact h2,bn K _ _ h3⟩;rw[hg]at hj;split at hj;cases hj;obtain⟨n,h1⟩:=h.own j e s hj t ht;exact⟨n,(K j t (λe=>e) ht).2.1 _ _ _ h1⟩;rw[hg];split
 grind
 exact h.qH j j' hj;rw[hg]at hj;split at hj;rename_i e;subst e;cases hj;rw[hi]at ht;cases ht;rw[aN,if_pos rfl,if_pos Cw];exact rfl
 rename_i e;rw[rT t λe1=>e (h.inj _ _ _ (e1▸ht) hi)];exact h.mp j b hj t ht
theorem acr{id:Nat}{kt:TT}{l l':List kt.den}(hB:oy B tS)(hl:tS[id]? =some (.map kt l)):oy B (tS.set id (.map kt l')):=λk hk=>by obtain⟨c,hc⟩:=hB k hk;refine⟨c,?_⟩;rw[aN,if_neg];exact hc;rintro rfl;rw[hl]at hc;cases c<;>cases hc
theorem Y2{v:TV}{iq:cx}{c:Prop}(h:adM P tt te tS o nT=some (v,iq,c))(hc:c):Does P ty aD call yf B o nT te tS false λv' bS bK _=>v'=v/\bS=te/\bK=iq:=by intro ι w env S aB hR hB hw hT hn hS;unfold adM at h;split at h;rename_i t ho;split at h;rename_i kt ht;cases h;refine⟨.map aB,eF S aB (.map []),upd ι nT aB,upd w aB nT,.mp nT,te,_,⟨none,true⟩,⟨none,true⟩,λ_=>?_,λhd=>bj,⟨λe=>e,λl hl=>bc⟩,λl m hl=>bc,Mm hR hT hn kt,?_,qm hR hn hT hw,λhd=>bj,sg hn (ng hB hT),jl hB hT,oC hn,rfl,rfl,rfl⟩;simp only[ah,ho];simp[RT,upd];cases h;rename_i t m k ho;split at h;rename_i id u h1 h2;split at h;rename_i kt l h3;split at h;rename_i x h4;cases h;obtain⟨d,k1,k2⟩:=bp hR.env h1;cases d<;>simp only[RT]at k2;rename_i iG;have k3:S[iG]? =some (.map (CA kt l)):=hR.mp id _ h3 iG k2;have k4:valOf (ir env) k=some (J9 kt x):=dF hR.env (by rw[h2];exact QW h4);refine⟨.val (.bool (Vf kt x l)),S,ι,w,.val (.bool (Vf kt x l)),te,tS,⟨none,true⟩,⟨none,true⟩,λ_=>?_,λhd=>bj,⟨λe=>e,λl hl=>bc⟩,λl m hl=>bc,hR,by simp only[RT],hw,λhd=>bj,Fr.refl _ _ _,hB,fP _ _,rfl,rfl,rfl⟩;simp only[ah,ho,k1,k4,k3,hc.look x l,bQ,Kn,wF];rfl;cases h;cases h;cases h;rename_i t m k y ho;split at h;rename_i id u h1 h2 h5;split at h;rename_i kt l h3;split at h;rename_i x h4;cases h;obtain⟨d,k1,k2⟩:=bp hR.env h1;cases d<;>simp only[RT]at k2;rename_i iG;have k3:S[iG]? =some (.map (CA kt l)):=hR.mp id _ h3 iG k2;have k4:valOf (ir env) k=some (J9 kt x):=dF hR.env (by rw[h2];exact QW h4);have k5:valOf (ir env) y=some (.bool true):=dF hR.env (by rw[h5];rfl);obtain⟨r,k6,k7⟩:=hc.find x l;refine⟨bD,S.set iG (.map (CA kt (adO kt x l))),ι,w,.unk,te,_,⟨none,true⟩,⟨none,true⟩,λ_=>?_,λhd=>bj,⟨λe=>e,λl hl=>bc⟩,λl m hl=>bc,Ml hR k2 h3,by simp only[RT],hw,λhd=>bj,AG k2,acr hB h3,Az k3 (λe=>aE),rfl,rfl,rfl⟩;simp only[ah,ho,k1,k4,k5,k3,k6,k7,ay];cases h;cases h;cases h;cases h
end Go.Tv
namespace Go.Tv
open Go Go.Di Go.Proofs
def ki(tS:cx)(g:Nat)(t:TT):Option (Nat×List t.den×Bool):=
 match tS[g]? with
 |some (.rows t' e l z)=>if h:t'=t then some (e,h▸l,z)else none
 |_=>none
theorem lp{tS:cx}{g:Nat}{t:TT}{e:Nat}{l:List t.den}{z:Bool}(h:ki tS g t=some (e,l,z)):tS[g]? =some (.rows t e l z):=by
 unfold ki at h;split at h
 grind
 cases h
section
variable (ty:fo) (tt:TypeId->cJ)
def Km(te:cp)(tS:cx)(o:Oper):Option (TV×Nat×Prop):=
 match o.op with
 |.indexAddr t x i=>match ty t,eL te x,Ih te i with
  |some ⟨.slice _ s _ _,_,_⟩,some (.so g k),some n=>match ki tS g k with
   |some (_,l,_)=>if k.size==s then some (.sp g k n.toNat 0,g,0<=n/\n<(l.length:Int))else none
   |none=>none
  |_,_,_=>none
 |.fieldAddr t x f=>match ty t,eL te x with
  |some ⟨.struct fs,_,_⟩,some (.sp g k i off)=>match fs[f]? with
   |some (o,s,_)=>if 0<s then some (.sp g k i (off+o),g,True)else none
   |none=>none
  |_,_=>none
 |.load t a=>match ty t,eL te a with
  |some d,some (.sp g k i off)=>match ki tS g k with
   |some (_,l,_)=>(wD d.k.isAgg d.size (k.cells (l.getD i k.dft)) off).map λv=>(fA tt t v,g,True)
   |none=>none
  |_,_=>none
 |.call {callee:=.builtin .len,args,argTypes}=>match args.toList,argTypes.toList with
  |[x],[t]=>match ty t,eL te x with
   |some ⟨.slice _ _ _ _,_,_⟩,some (.so g k)=>match ki tS g k with
    |some (_,l,_)=>some (.val (.int .i64 (l.length:Nat)),g,True)
    |none=>none
   |_,_=>none
  |_,_=>none
 |_=>none
def VH(te:cp)(tS:cx)(o:Oper):Option (Nat×cx):=
 match o.op with
 |.store t a x=>match ty t,eL te a,(eL te x).map (fA tt t)with
  |some d,some (.sp g k i off),some v=>match ki tS g k with
   |some (e,l,false)=>if v.DY&&v.cells.length==d.size then match Nc (k.cells (l.getD i k.dft)) off v.cells with
     |some cs=>match k.of cs with
      |some (y,[])=>some (g,tS.set g (.rows k e (l.set i y) false))
      |_=>none
     |none=>none
    else none
   |_=>none
  |_,_,_=>none
 |_=>none
def VY:TV->Bool
 |.jD=>true
 |.sl _ [] .full=>true
 |_=>false
def VG(te:cp)(tS:cx)(o:Oper)(nT:Nat):Option (TV×cp×cx×Prop):=
 match o.op with
 |.makeSlice t a b=>match ty t,Ih te a,Ih te b,tt t with
  |some ⟨.slice e s iU agg,_,_⟩,some n,some m,some (.sl k)=>match ty e with
   |some ⟨_,_,some z⟩=>match k.of (z.map s6)with
    |some (x,[])=>if decide (0<s)&&k.size==s&&k.agg==agg&&(agg||s==1)&&decide (iU<=100000)then
      some (.so nT k,te,nS tS nT (.rows k e (List.replicate n.toNat x) false),m=n/\0<=n/\n<=1000000000)else none
    |_=>none
   |_=>none
  |_,_,_,_=>none
 |.buildSlice t n ps=>match ty.h o with
  |1=>match ty t,Ay te ps.toList,tt t with
   |some ⟨.slice e s _ agg,_,_⟩,some l,some (.sl k)=>match ty e with
    |some ⟨_,_,some z⟩=>if decide (0<s)&&decide (n*s<=16777216)&&l.length==n&&z.length==s&&k.size==s&&k.agg==agg&&(agg||s==1)then
      (DW k 0 l).map λw=>(.so nT k,te,nS tS nT (.rows k e w false),True)
     else none
    |_=>none
   |_,_,_=>none
  |_=>none
 |.call {callee:=.builtin .append,args,argTypes}=>match args.toList,argTypes.toList with
  |[x,y],[t,u]=>if t=u then match eL te x with
   |some (.so g k)=>match ty t,(eL te y).map (fA tt t)with
    |some ⟨.slice e s iU agg,_,_⟩,some (.sl k' m _)=>if h:k'=k then match ki tS g k,ty e with
      |some (e',l,false),some ⟨_,_,some _⟩=>if e'==e&&k.size==s&&k.agg==agg&&decide (iU<=100000)then
       some (.so g k,o6 g te,(tS.map (pZ g)).set g (.rows k e (l++(h▸m)) false),l.length+m.length<=1000000000)else none
      |_,_=>none
     else none
    |_,_=>none
   |some v=>match ty.h o with
    |1=>match ty t,(eL te y).map (fA tt t)with
     |some ⟨.slice e s iU agg,_,_⟩,some (.sl k' (a::m) _)=>match ty e with
      |some ⟨_,_,some _⟩=>if VY v&&decide (0<s)&&k'.size==s&&k'.agg==agg&&(agg||s==1)&&decide (iU<=100000)then
       some (.so nT k',te,nS tS nT (.rows k' e (a::m) false),(a::m).length<=1000000000)else none
      |_=>none
     |_,_=>none
    |_=>none
   |none=>none
   else none
  |_,_=>none
 |_=>none
end
variable {P:Program} {ty:fo} {tt:TypeId->cJ} {ι ι' w:kW} {S S':aj} {te mh:cp} {env:cn} {tS iq:cx} {aD:bT} {call:bg} {yf:dx} {o:Oper} {aB nT:Nat} {B:cy} {ops:Array Oper}
theorem xW{t:TT}:∀{l:List t.den}{ds:cn}{i:Nat},fC t l ds->i<l.length->∃pre c post,ds=pre++c++post/\pre.length=i*t.size/\CR t (l.getD i t.dft) c/\∀y c',CR t y c'->fC t (l.set i y) (pre++c'++post)
 |[],_,_,_,h=>by simp at h
 |x::l,ds,i,hf,h=>by
  simp only[fC]at hf;obtain⟨c,m,rfl,h1,h2⟩:=hf;cases i with
  |zero=>exact⟨[],c,m,rfl,ae,h1,λy c' hc=>by simp only[List.set_cons_zero,fC];exact⟨c',m,rfl,hc,h2⟩⟩
  |succ i=>obtain⟨pre,c1,post,rfl,k1,k2,k3⟩:=xW (i:=i) h2 (by simpa using h);refine⟨c++pre,c1,post,ae,by rw[cL,oa h1,k1,kL,Nat.one_mul,yU],by simpa using k2,λy c' hc=>?_⟩;simp only[List.set_cons_succ,fC];exact⟨c,pre++c'++post,ae,h1,k3 y c' hc⟩
theorem LO{t:TT}:∀{l m:List t.den}{ds es:cn},fC t l ds->fC t m es->fC t (l++m) (ds++es)
 |[],_,ds,_,h,k=>by simp only[fC]at h;subst h;exact k
 |x::l,m,ds,es,h,k=>by simp only[fC]at h;obtain⟨c,r,rfl,h1,h2⟩:=h;simp only[gM,fC];exact⟨c,r++es,ae,h1,LO h2 k⟩
theorem Ex{t:TT}{x:t.den}{c:cn}(h:CR t x c):∀n,fC t (List.replicate n x) (List.replicate n c).flatten
 |0=>by simp[fC]
 |n+1=>by simp only[De,List.flatten_cons,fC];exact⟨c,_,rfl,h,Ex h n⟩
theorem sV{t:TT}{agg:Bool}:∀{l:List t.den}{rows:cn},ei (CR t) agg l rows->fC t l (flat rows)
 |[],[],_=>by simp[flat,fC]
 |x::l,r::rows,h=>by simp only[flat,dm,fC];exact⟨r.cells,_,rfl,h.1.1,sV h.2⟩
theorem wY{t:TT}:∀{qs:List (Nat×DV)}{i:Nat}{l:List t.den},Gz t i qs l->fC t l (jh qs)
 |[],_,[],_=>by simp[jh,fC]
 |(j,d)::qs,i,x::l,h=>by obtain⟨⟨rfl,hc⟩,h⟩:=h;simp only[jh,dm,fC];exact⟨d.strip.cells,_,rfl,hc,wY h⟩
theorem EF:∀{t:TT}{x:t.den}{c:cn},CR t x (c.map DV.aM)->c.all DV.bU=true->CR t x c
 |.int _,_,c,h,hp=>by simp only[CR]at h⊢;obtain⟨d,rfl⟩:∃d,c=[d]:=List.length_eq_one_iff.1 (by have:=congrArg List.length h;simpa using this);cases d<;>simp_all [DV.aM]
 |.bool,_,c,h,hp=>by simp only[CR]at h⊢;obtain⟨d,rfl⟩:∃d,c=[d]:=List.length_eq_one_iff.1 (by have:=congrArg List.length h;simpa using this);cases d<;>simp_all [DV.aM]
 |.str,_,c,h,hp=>by simp only[CR]at h⊢;obtain⟨d,rfl⟩:∃d,c=[d]:=List.length_eq_one_iff.1 (by have:=congrArg List.length h;simpa using this);cases d<;>simp_all [DV.aM]
 |.unit,_,c,h,_=>by simp only[CR]at h⊢;simpa using h
 |.pair a b,x,c,h,hp=>by simp only[CR]at h⊢;obtain⟨c1,c2,e,h1,h2⟩:=h;obtain⟨d1,d2,rfl,rfl,rfl⟩:=List.map_eq_append_iff.1 e;rw[lU,aC]at hp;exact⟨d1,d2,rfl,EF h1 hp.1,EF h2 hp.2⟩
 |.sl t,l,c,h,hp=>by
  simp only[CR]at h⊢;obtain⟨rows,f,e,h⟩:=h;obtain⟨d,rfl⟩:∃d,c=[d]:=List.length_eq_one_iff.1 (by have:=congrArg List.length e;simpa using this);cases d<;>simp[DV.aM]at e;rename_i r tok f';obtain⟨rfl,-⟩:=e;cases tok with
  |some=>simp[DV.bU]at hp
  |none=>exact⟨r,f',rfl,h⟩
theorem FW(d:DV):d.aM.aM=d.aM:=by cases d<;>rfl
theorem Jt{v:TV}{d:DV}(hk:v.DY=true)(h:RT ι S v d):d.strip.cells=d.cells.map DV.aM:=by cases v<;>cases d<;>simp only[RT]at h<;>first|(cases hk;done)|rfl
theorem Tj{agg:Bool}{n off:Nat}{pre c post:cn}{d:DV}(h:pg agg n c off=some d):pg agg n (pre++c++post) (pre.length+off)=some d:=by
 unfold pg at h⊢;cases agg with
 |true=>simp only[if_true,af]at h⊢;obtain⟨cs,h1,rfl⟩:=h;refine⟨cs,?_,rfl⟩;unfold Vr at h1⊢;split at h1;rename_i hle;cases h1;rw[if_pos (by simp;omega),qA,yW,hU ab,gu,qE,List.drop_append_of_le_length ab,List.take_append_of_le_length (by simp;omega)];cases h1
 |false=>grind
theorem Yi{off:Nat}{pre c post cs c':cn}(h:vY c off cs=some c'):vY (pre++c++post) (pre.length+off) cs=some (pre++c'++post):=by
 unfold vY at h⊢;split at h;rename_i hle;cases h;have e1:(pre++c++post).take (pre.length+off)=pre++c.take off:=by rw[qA,List.take_append,List.take_of_length_le ab,qE,List.take_append_of_le_length ab]
 have e2:(pre++c++post).drop (pre.length+off+cs.length)=c.drop (off+cs.length)++post:=by rw[qA,fS,yW,hU ab,gu,qE,List.drop_append_of_le_length ab]
 rw[if_pos (by simp;omega),e1,e2];simp[qA];cases h
theorem acG(h:bO ι te tS env S){g i off:Nat}{t:TT}{e:Nat}{l:List t.den}{z:Bool}{d:DV}(hg:tS[g]? =some (.rows t e l z))(hd:RT ι S (.sp g t i off) d):∃id ds,d=.fV id l.length (i*t.size+off)/\ι g=some id/\S[id]? =some (.op e t.size ds z)/\CI S id l.length=some (e,t.size,ds,z)/\fC t l ds/\i<l.length/\0<t.size/\(t.agg||t.size==1)=true:=by
 cases d<;>simp only[RT]at hd;rename_i id n rV;obtain⟨h1,rfl,e',s',l',z',h2,h3,h4⟩:=hd;obtain⟨q0,q1,ds,q2,q3⟩:=h.mp g _ hg id h1;rw[h2]at q2;cases q2;have hl:=iD q3;have hn:n=l.length:=Nat.eq_of_mul_eq_mul_right q0 (h3.trans hl);subst hn;refine⟨id,l',rfl,h1,h2,?_,q3,?_,q0,q1⟩;unfold CI;rw[h2];simp only[h3,if_true];rw[<-h3]at h4;have:i*t.size<l.length*t.size:=ab
 exact Nat.lt_of_mul_lt_mul_right this
theorem E7{v:TV}{g:Nat}{c:Prop}(h:Km ty tt te tS o=some (v,g,c))(hc:c)(hR:bO ι te tS env S):∃d id,(∀aB,ah P ty aD call yf (ir env) o S aB=some (d,S))/\RT ι S v d/\ι g=some id/\((∃t a f,o.op=.fieldAddr t a f/\∃n off,ir env a=some (.fV id n off))\/(∃t a i,o.op=.indexAddr t a i/\∃n ag,ir env a=some (.jB id n ag))\/(∃t a,o.op=.load t a/\∃n off,ir env a=some (.fV id n off))\/∃args ats,o.op=.call {callee:=.builtin .len,args,argTypes:=ats}):=by
 unfold Km at h;split at h;rename_i t x i ho;split at h;rename_i e s iU agg sz z g' k n h1 h2 h3;split at h;rename_i e' l zz h4;split at h;rename_i h5;cases h;have hg:=lp h4;obtain⟨d,k1,k2⟩:=bp hR.env h2;obtain⟨id,ds,rfl,m1,m2,m3,m4,m5,m6⟩:=Gj hR hg k2 rfl;have hs:k.size=s:=by simpa using h5
 have hl:=iD m4;have hi:intOf (ir env) i=some n:=qu hR.env h3;obtain⟨c1,c2⟩:=hc;refine⟨.fV id l.length (n.toNat*s),id,λaB=>?_,?_,m1,.inr (.inl ⟨t,x,i,ho,_,_,k1⟩)⟩;simp only[ah,ho,h1,k1,hi,m3];rw[if_pos ⟨c1,ab,hs⟩];simp only[RT];refine⟨m1,by rw[hs];rfl,e',k.size,ds,zz,m2,hl.symm,?_⟩;rw[hl,<-ni];exact gv _ ab;cases h;cases h;cases h;rename_i t x f ho;split at h;rename_i fs sz z g' k i off h1 h2;split at h;rename_i of s ag hf;split at h;rename_i hs;cases h;obtain⟨d,k1,k2⟩:=bp hR.env h2;cases d<;>simp only[RT]at k2;rename_i id n rV;obtain⟨m1,rfl,e',s',l',z',m2,m3,m4⟩:=k2;have hop:CI S id n=some (e',s',l',z'):=by unfold CI;rw[m2];simp only[m3,if_true]
 refine⟨.fV id n (i*k.size+off+of),id,λaB=>?_,?_,m1,.inl ⟨t,x,f,ho,_,_,k1⟩⟩;simp only[ah,ho,h1,k1,hf,hop,if_pos hs];simp only[RT];exact⟨m1,ab,e',s',l',z',m2,m3,m4⟩;cases h;cases h;cases h;rename_i t a ho;split at h;rename_i td g' k i off h1 h2;split at h;rename_i e' l zz h4;simp only[af,az]at h;obtain⟨u,h5,rfl,rfl,-⟩:=h;have hg:=lp h4;obtain⟨d,k1,k2⟩:=bp hR.env h2;obtain⟨id,ds,rfl,m1,m2,m3,m4,m5,m6,m7⟩:=acG hR hg k2;obtain⟨pre,c,post,rfl,q1,q2,-⟩:=xW m4 m5;obtain⟨d,q3,q4⟩:=ry (pO (ι:=ι) (S:=S) q2) h5;refine⟨d,id,λaB=>?_,cN q4,m1,.inr (.inr (.inl ⟨t,a,ho,_,_,k1⟩))⟩;simp only[ah,ho,k1,kX,h1,m3];rw[<-q1,Tj q3];rfl;cases h;cases h;rename_i args ats ho;split at h;rename_i x t ha ht;split at h;rename_i e s iU agg sz z g' k h1 h2;split at h;rename_i e' l zz h4;cases h;have hg:=lp h4;obtain⟨d,k1,k2⟩:=bp hR.env h2;obtain⟨id,ds,rfl,m1,m2,m3,m4,m5,m6⟩:=Gj hR hg k2 rfl;refine⟨.val (.int .i64 (l.length:Nat)),id,λaB=>?_,by simp only[RT],m1,.inr (.inr (.inr ⟨_,_,ho⟩))⟩;simp only[ah,ho,ha,ht,h1,k1];cases h;cases h;cases h;cases h
theorem Fi{v:TV}{g:Nat}{c:Prop}(h:Km ty tt te tS o=some (v,g,c))(hc:c)(dr:Bool):Does P ty aD call yf B o nT te tS dr λv' bS bK ft=>v'=v/\bS=te/\bK=tS/\ft=⟨some [g],false⟩:=by
 intro ι w env S aB hR hB hw hT hn hS;obtain⟨d,id,h1,h2,h3,h4⟩:=E7 (P:=P) (aD:=aD) (call:=call) (yf:=yf) h hc hR;have hl:∃l,aH P ty aD call yf (ir env) o S aB=some (d,S,⟨some l,false⟩)/\∀j∈l,j=id:=by rcases h4 with ⟨t,a,f,ho,n,off,ha⟩|⟨t,a,i,ho,n,ag,ha⟩|⟨t,a,ho,n,off,ha⟩|⟨args,ats,ho⟩;exact⟨[id],by simp only[aH,ho,ha,h1,ay],ae⟩;exact⟨[id],by simp only[aH,ho,ha,h1,ay],ae⟩;exact⟨[id],by simp only[aH,ho,ha,h1,ay],ae⟩;exact⟨[],by simp only[aH,ho,h1,ay],ae⟩
 obtain⟨l,h5,h6⟩:=hl;refine⟨d,S,ι,w,v,te,tS,⟨some l,false⟩,⟨some [g],false⟩,λ_=>h1 aB,λ_=>h5,⟨λe=>e,λl' jZ=>?_⟩,λl' m _ hm j hj=>?_,hR,h2,hw,λ_ _ _=>rfl,Fr.refl _ _ _,hB,fP _ _,rfl,rfl,rfl,rfl⟩;cases jZ;exact⟨l,rfl,λj hj=>⟨g,ae,by rw[h6 j hj];exact hw _ _ h3⟩⟩
 grind
theorem Xo{k:Nat}{v:TV}{g:Nat}{c:Prop}{Q:cp->Prop}(ho:ops[k]? =some o)(hw:dN ops te o=some true)(h:Km ty tt te tS o=some (v,g,c))(hc:c)(hq:WQ P ty aD call yf ops tS (k+1) (jV te o.dst v) Q):WQ P ty aD call yf ops tS k te Q:=by
 intro ι env S hR;obtain⟨d,id,h1,h2,h3,h4⟩:=E7 (P:=P) (aD:=aD) (call:=call) (yf:=yf) h hc hR;obtain⟨aL,bS,n1,n2,n3⟩:=hq ι (j4 env o.dst d) S (oA hR h2 _);refine⟨aL,bS,?_,n2,n3⟩;rw[oE ho];have hq:de P ty aD call yf (ir env) o S=some d:=by rcases h4 with ⟨t,a,f,ho,n,off,ha⟩|⟨t,a,i,ho,n,ag,ha⟩|⟨t,a,ho,n,off,ha⟩|⟨args,ats,ho⟩<;>simp only[de,ho,h1,ay]
 simp only[qI,ia hR.env hw,if_true,hq,n1]
end Go.Tv
