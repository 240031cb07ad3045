import Derived.Test.YtedcgbkilmlbhaaGreatPk05
import Derived.Test.YtedcgbkilmlbhaaGreatChecked
import Derived.KernelRfl
import Derived.Laws.BitsLemmas
import Derived.Laws.StructEq
namespace Go.Tv
open Go Go.Di Go.Proofs
abbrev bY:TT:=.int .i64
abbrev bC:TT:=.sl bY
abbrev aF:TT:=.pair bC (.pair bC (.pair bY (.pair bC .unit)))
abbrev Xl:TT:=.pair bY (.pair bY .unit)
abbrev bn:TT:=.pair bY (.pair bY (.pair bY .unit))
abbrev lF:TT:=.pair .bool (.pair bn .unit)
abbrev sj:TT:=.pair bC (.pair bC (.pair bY (.pair bC (.pair bC (.pair bC (.pair bC (.pair bC (.pair bC (.pair bC (.pair bC (.pair bC .unit)))))))))))
def ttL:List (Nat×TT):=[(3,bY),(4,.bool),(35,bY),(23,bC),(25,aF),(22,.sl aF),(75,Xl),(83,.int .u64),(79,bn),(34,.sl bn),(81,bn),(47,.sl bn),(41,.sl bC),(9,.str),(145,lF),(142,lF),(143,.sl .bool),(30,.sl (.sl aF)),(49,.sl (.sl bn)),(99,.sl sj),(150,lF),(148,.sl lF)]
def Zl(t:TypeId):cJ:=(ttL.find? λp=>p.1==t).map (·.2)
abbrev vv:=TV.val
abbrev vi:=Value.int IntKind.i64
abbrev vb:=Value.bool
abbrev aV(n:Int):TV:=.val (.int .i64 n)
abbrev kR(b:Bool):TV:=.val (.bool b)
noncomputable abbrev Tp:Program:=Tryz.prog
noncomputable abbrev Ty:gb:=TyH
def LL:Nat:=1001000
structure CX (bI:b9):Prop where
 other:∀f a,f≠60->f≠133->f≠12->f≠43->f≠52->bI f a=none
 fit:bI 12 []=some (.val (.bool true))
section
variable (bI:b9) (n:Nat)
noncomputable abbrev KA:b9:=yN Tp Ty bI LL n
noncomputable abbrev x9:bG:=qf Tp Ty bI LL n
noncomputable abbrev yfT:ez:=yfN Tp Ty bI LL n
end
theorem D1{n:Int}(h:-9223372036854775808<=n)(h':n<=9223372036854775807):IntKind.i64.wrap n=n:=by rw[IntKind.wrap_i64];omega
end Go.Tv
namespace Go.Tv
open Go Go.Di
def DZ(aI:b9)(call:bG)(g:FuncId)(targs:cp)(Q:cp->Prop):Prop:=
 ∀bO S,cO fF S targs bO->(∀ds,cO fF [] targs ds->aI g ds=none)/\∃S' id ds ts,call g bO S=some (.ptr id 0,S')/\¬Lv S id/\S'[id]? =some (.cells ds)/\cO fF [] ts ds/\fE ts=[]/\(∀k',Lv S k'->S'[k']? =S[k']?)/\Nn S.length S S'/\Q ts
theorem DZ.mono {aI:b9}{call:bG}{g:FuncId}{targs:cp}{Q Q':cp->Prop}(h:DZ aI call g targs Q)(hq:∀v,Q v->Q' v):DZ aI call g targs Q':=λbO S hd=>by obtain⟨h0,S',id,ds,ts,h1,h2,h3,h4,h5,h6,h7,h8⟩:=h bO S hd;exact⟨h0,S',id,ds,ts,h1,h2,h3,h4,h5,h6,h7,hq _ h8⟩
variable {P:Program} {ty:gb} {tt:TypeId->cJ} {ι ι' w:lp} {S S':ai} {te mV:cp} {env:cj} {tS iS:cx} {aI:b9} {call:bG} {yf:ez} {o:Oper} {aC nT:Nat} {B:cy} {r:TR} {ops:Array Oper}
theorem Pb{f:Operand}{args:Array Operand}{argTypes:Array TypeId}{g:FuncId}{fs cs xs targs:cp}{Q:cp->Prop}(hop:o.op=.call {callee:=.value f,args,argTypes})(hh:ty.h o≠1)(hf:fT te f=some (.fn g fs cs))(ha:mj te args.toList=some xs)(hp:(fs++xs++cs).all eV=true)
  (hn:bR (gu tt fs argTypes) (fs++xs++cs)=targs) (hs:DZ aI call g targs Q):Does P ty aI call yf B o nT te tS false λv cr bU _=>∃ts,Q ts/\v=.ptr nT 0/\cr=te/\bU=oC tS nT (.cells ts):=by
 intro ι w env S aC hR hB hw hT Dw hS;obtain⟨xL,iZ,Gb,k1,k2,k3⟩:=iR hR.env hf ha;obtain⟨k4,k5⟩:=jV (ts:=gu tt fs argTypes) (ι':=fF) (S':=[]) hp k3;have k6:=mb (ts:=gu tt fs argTypes) (ι':=fF) (S':=S) hp k3;rw[hn]at k5 k6;obtain⟨h0,S',id,ds,ts,m1,m2,m3,m4,m5,m6,m7,m8⟩:=hs _ S k6;have hne:∀{k k':Nat},ι k=some k'->k'≠id:=λhk e=>m2 (e▸hR.live hk);have yP:ι nT=none:=hR.new hT;have K:jE ι S (upd ι nT id) S' λ_=>False:=λk k' _ hk=>by
  have h1:k≠nT:=by rintro rfl;rw[yP]at hk;cases hk
  exact⟨by simp only[upd,h1,if_false];exact hk,ei (m6 k' (hR.live hk))⟩
 refine⟨.ptr id 0,S',upd ι nT id,λj=>if j=id then some nT else w j,.ptr nT 0,te,oC tS nT (.cells ts),⟨none,true⟩,⟨none,true⟩,λ_=>?_,λe=>ar,⟨λe=>e,λl hl=>aE⟩,λl m hl=>aE,?_,by simp[RT,upd],?_,?_,?_,jM hB hT,⟨m7.1,λj hj eL=>m7.2 j (by have:=(aM.1 eL).1;omega) eL⟩,ts,m8,rfl,rfl,rfl⟩;simp only[af,hop,k1,k2,xz,k4,if_true,h0 _ k5,m1];refine⟨bH K _ _ hR.env,λk l hk=>?_,λk e s hk t ht=>?_,λk k' hk=>?_,λi j k' hi hj=>?_,λk b hk t ht=>?_⟩;rw[dh hT]at hk;split at hk;rename_i e;subst e;cases hk;exact⟨id,ds,by simp[upd],m3,jP _ _ m5 m4⟩;rename_i e;obtain⟨k',iL,h1,h2,h3⟩:=hR.cells k l hk;exact⟨k',iL,by simp only[upd,e,if_false];exact h1,by rw[m6 k' (hR.live h1)];exact h2,bH K _ _ h3⟩;rw[dh hT]at hk;split at hk;cases hk;rename_i e';simp only[upd,e',if_false]at ht;obtain⟨n,h1⟩:=hR.own k e s hk t ht;exact⟨n,by rw[m6 t (hR.live ht)];exact h1⟩;rw[dh hT];split
 grind
 rename_i e;simp only[upd,e,if_false]at hk;exact hR.qB k k' hk;unfold upd at hi hj;split at hi<;>split at hj;omega
 grind
 grind
 exact hR.inj i j k' hi hj;rw[dh hT]at hk;split at hk;cases hk;trivial
 rename_i e';simp only[upd,e',if_false]at ht;rw[m6 t (hR.live ht)];exact hR.mp k b hk t ht
 intro a b qA;unfold upd at qA;split at qA
 grind
 simp only[hne qA,if_false];exact hw _ _ qA
 grind
 refine⟨λk' hl _=>m6 k' hl,λk k' hk=>?_,λk hk=>?_⟩;unfold upd at hk;split at hk
 grind
 grind
 have:=nM hB hT;unfold upd;rw[if_neg (λe:k=nT=>this (e▸hk))]
def aeN(ty:gb)(rs:List ResultVar)(oy:List cJ)(Q:cp->Prop)(e:DX)(te:cp)(tS:cx):Prop:=
 (match e with|.exit _=>False|_=>True)/\∃ts,xR ty te tS rs=some [.ptr 0 0]/\tS[0]? =some (.cells ts)/\ts.all eV=true/\fE (bR oy ts)=[]/\Q (bR oy ts)
theorem YA{bI:b9}{L n:Nat}{f:FuncId}{fn:Func}{c:Code}{targs:cp}{oy:List cJ}{Q:cp->Prop}(hf:P.funcs[f]? =some fn)(hb:fn.body=some c)(ht:∀a,bI f a=none)
  (h:WT P ty (yN P ty bI L n) (qf P ty bI L n) (yfN P ty bI L n) [] L f false c (targs++List.replicate (fn.ntmps-targs.length) .unk) [] (aeN ty fn.results.toList oy Q)):DZ (yN P ty bI L (n+1)) (qf P ty bI L (n+1)) f targs Q:=by
 have key:∀bO S,cO fF S targs bO->∃S' id ds ts,(dI P ty bI L (n+1)).1 f bO S=some (.ptr id 0,S')/\¬Lv S id/\S'[id]? =some (.cells ds)/\cO fF [] ts ds/\fE ts=[]/\(∀k',Lv S k'->S'[k']? =S[k']?)/\Nn S.length S S'/\Q ts:=by
  intro bO S hd;have hlen:=gN hd;have hR:bZ fF (targs++List.replicate (fn.ntmps-targs.length) .unk) [] (bO++List.replicate (fn.ntmps-bO.length) bK) S:=by refine⟨eB hd (by rw[hlen];exact tj _ _),λk l hk=>(by simp at hk),λk e s hk=>(by simp at hk),λk k' hk=>(by cases hk),λi j k' hi=>(by cases hi),λk b hk=>(by simp at hk)⟩
  obtain⟨e,aL,S',ι',cr,bU,h1,h2,h3,h4,h5,h6⟩:=h fF _ S hR (λk hk=>(by cases hk));obtain⟨h6,ts,h7,h8,h9,uG,Ig⟩:=h6;obtain⟨ds,k1,k2⟩:=tn h2 h7;obtain⟨d,m',rfl,k3,k4⟩:=aj k2;rw[aQ k4]at k1;cases d<;>simp only[RT]at k3;rename_i id off;obtain⟨k3,rfl⟩:=k3;obtain⟨jf,iL,m1,m2,m3⟩:=h2.cells 0 ts h8;rw[k3]at m1;cases m1;refine⟨S',id,iL,bR oy ts,?_,?_,m2,mb h9 m3,uG,λk' hl=>h4.rest k' hl (λk hk=>by cases hk),h5,Ig⟩;simp only[dI,hf,uA,hb];have AP:de P ty (kV bI (dI P ty bI L n).1) (dI P ty bI L n).1 (dI P ty bI L n).2 L f false c (bO++List.replicate (fn.ntmps-bO.length) bK) S=some (e,aL,S'):=h1;rw[AP];cases e with
  |normal=>simp only[k1,az,oneOf]
  |ret=>simp only[k1,az,oneOf]
  |exit id=>exact h6.elim
  rcases h4.ours 0 id k3 with ⟨j,hj⟩|hl;cases hj;exact hl
 intro bO S hd;refine⟨λds hds=>?_,key bO S hd⟩;obtain⟨S',id,iL,ts,k1,-⟩:=key ds [] hds;simp only[yN,kV,ht,uV,IA,uv,uJ,kT,yQ,k1,DV.strip,DV.dL,DV.pure,DV.kD,aK,if_false]
end Go.Tv
namespace Go.Tv
open Go Go.Di Go.Proofs
variable {P:Program}
theorem eZ{α β:Type}(s:Sem α)(f:α->Sem β):cZ P (s>>=f)=(cZ P s).bind λa=>cZ P (f a):=by
 change cZ P (s.bind f)=_;cases s with
 |pure a=>rfl
 |program k=>
  simp only[Sem.bind,cZ];generalize k P=s';induction s' with
  |pure a=>rfl
  |program k ih=>simp only[Sem.bind,cZ];exact ih P
  |_=>simp only[Sem.bind,cZ,Option.bind_none]
 |_=>simp only[Sem.bind,cZ,Option.bind_none]
theorem yo{α:Type}(a:α):cZ P (pure a:Sem α)=some a:=rfl
theorem nW:cZ P program=some P:=rfl
theorem nF{t:TypeId}{d:TypeDesc}(h:P.underlying t=some d):cZ P (underlying t)=some d:=by unfold underlying;rw[eZ,nW];simp only[dc,h];rfl
theorem Ta(d:Nat)(t:TypeId)(k k':IntKind)(a b:Int)(h:P.underlying t=some (.int k')):cZ P (Op.equalIn (d+1) t (.int k a) (.int k b))=some (a==b):=by simp only[Op.equalIn,eZ,nF h,dc,if_true];rfl
theorem S9{α:Type}{c:Prop}[Decidable c]{a b:Sem α}:cZ P (if c then a else b)=if c then cZ P a else cZ P b:=by split<;>rfl
theorem uc(d:Nat)(t:TypeId)(xs ys:Array Value)(ht:P.underlying t=some (.struct (P.fieldsOf t)))(hp:P.stoodInHeld t=false):
  cZ P (Op.equalIn (d+1) t (.agg xs) (.agg ys))=cZ P (Op.eqFields d xs ys (P.fieldsOf t).toList):=by
 simp only[Op.equalIn,eZ,nF ht,dc,nW,hp,aK,if_false];rw[<-Array.forIn_toList];generalize(P.fieldsOf t).toList=fs;clear ht;induction fs with
 |nil=>rfl
 |cons f fs ih=>
  simp only[List.forIn_cons,Op.eqFields,eZ,S9];split;generalize cZ P (part f.type xs f.offset)=r1;cases r1 with
  |none=>rfl
  |some a=>
   generalize cZ P (part f.type ys f.offset)=r2;cases r2 with
   |none=>rfl
   |some b=>
    simp only[dc];generalize cZ P (Op.equalIn d f.type a b)=r3;cases r3 with
    |none=>rfl
    |some r=>cases r;simp only[dc,zA,if_true,yo];simp only[dc,gQ,aK,if_false,yo];exact ih
  simp only[yo,dc];exact ih
theorem aci{d:Nat}{xs ys:Array Value}:cZ P (Op.eqFields d xs ys [])=some true:=rfl
theorem acu{t:TypeId}{xs ys:Array Value}{b:Bool}(ht:P.underlying t=some (.struct (P.fieldsOf t)))(hp:P.stoodInHeld t=false)(hm:P.eqGuardType P.depth t=false)(hf:cZ P (Op.eqFields 9999 xs ys (P.fieldsOf t).toList)=some b)(x y:Operand):
  jC P (do eqGuard .neq t x y (.agg xs) (.agg ys);binOp .neq t (.agg xs) (.agg ys))=some (.val (.bool !b)):=by
 have h1:cZ P (eqGuard .neq t x y (.agg xs) (.agg ys))=some ():=by simp only[eqGuard];simp only[gQ,aK,if_false,eZ,nW,dc,hm,zA,if_true];rfl
 have h2:cZ P (binOp .neq t (.agg xs) (.agg ys))=some (.bool !b):=by simp only[binOp,eZ,Op.equal,Op.maxDepth,uc 9999 t xs ys ht hp,hf,dc];rfl
 rw[jC,eZ,h1,dc,h2];rfl
variable {ty:gb} {tt:TypeId->cJ} {ι ι' w:lp} {S S':ai} {te mV:cp} {env:cj} {tS iS:cx} {aI:b9} {call:bG} {yf:ez} {o:Oper} {aC nT:Nat} {B:cy} {ops:Array Oper}
end Go.Tv
namespace Go.Tv
open Go Go.Di Go.Proofs
def Vp:(t:TT)->DecidableEq t.den
 |.int _=>inferInstanceAs (DecidableEq Int)
 |.bool=>inferInstanceAs (DecidableEq Bool)
 |.str=>inferInstanceAs (DecidableEq ByteArray)
 |.unit=>inferInstanceAs (DecidableEq Unit)
 |.pair a b=>λx y=>@instDecidableEqProd _ _ (Vp a) (Vp b) x y
 |.sl t=>λx y=>@instDecidableEqList _ (Vp t) x y
def AU(t:TT)(x:t.den)(l:List t.den):Bool:=l.any λy=>@decide (x=y) (Vp t x y)
def wX(t:TT)(x:t.den)(l:List t.den):List t.den:=bif AU t x l then l else l++[x]
structure GH (P:Program) (t:TypeId) (kt:TT):Prop where
 look:∀(x:kt.den)(l:List kt.den),cZ P (PE t ((CW kt l).map Di.Zm) (Kz kt x) false)=some (.bool (AU kt x l))
 find:∀(x:kt.den)(l:List kt.den),∃r,cZ P (PS t ((CW kt l).map Di.Zm) (Kz kt x))=some r/\Ve (CW kt l) (Kz kt x) (.bool true) r=some (CW kt (wX kt x l))
def aam(kt:TT)(v:TV):Option kt.den:=
 match v with
 |.agg l=>match iU l,kt.of l with
  |some vs,some (x,[])=>if vs.length=(Gp kt x).length then some x else none
  |_,_=>none
 |_=>none
def ad3(P:Program)(tt:TypeId->cJ)(te:cp)(tS:cx)(o:Oper)(nT:Nat):Option (TV×cx×Prop):=
 match o.op with
 |.makeMap t none=>match tt t with
  |some kt=>some (.mp nT,oC tS nT (.map kt []),True)
  |none=>none
 |.lookup t m k false=>match fT te m,fT te k with
  |some (.mp id),some v=>match tS[id]? with
   |some (.map kt l)=>match aam kt v with
    |some x=>some (.val (.bool (AU kt x l)),tS,GH P t kt)
    |none=>none
   |_=>none
  |_,_=>none
 |.mapUpdate t m k y=>match fT te m,fT te k,fT te y with
  |some (.mp id),some v,some (.val (.bool true))=>match tS[id]? with
   |some (.map kt l)=>match aam kt v with
    |some x=>some (.unk,tS.set id (.map kt (wX kt x l)),GH P t kt)
    |none=>none
   |_=>none
  |_,_,_=>none
 |_=>none
theorem Jx:∀{t:TT}{l:cp}{x:t.den}{r:cp}{vs:List Value},t.of l=some (x,r)->iU l=some vs->∃ZK,iU r=some ZK/\vs=Gp t x++ZK
 |.int k,l,x,r,vs,h,hv=>by simp only[TT.of]at h;unfold ofInt at h;split at h;split at h;rename_i hk;subst hk;cases h;simp only[iU,ah]at hv;obtain⟨ZK,h1,rfl⟩:=hv;exact⟨ZK,h1,rfl⟩;cases h;cases h
 |.bool,l,x,r,vs,h,hv=>by simp only[TT.of]at h;unfold ofBool at h;split at h;cases h;simp only[iU,ah]at hv;obtain⟨ZK,h1,rfl⟩:=hv;exact⟨ZK,h1,rfl⟩;cases h
 |.str,l,x,r,vs,h,hv=>by simp only[TT.of]at h;unfold ofStr at h;split at h;cases h;simp only[iU,ah]at hv;obtain⟨ZK,h1,rfl⟩:=hv;exact⟨ZK,h1,rfl⟩;cases h
 |.unit,l,x,r,vs,h,hv=>by simp only[TT.of]at h;cases h;exact⟨vs,hv,rfl⟩
 |.sl t,l,x,r,vs,h,hv=>by simp only[TT.of]at h;unfold aak at h;split at h;simp[iU]at hv;simp[iU]at hv;cases h
 |.pair a b,l,x,r,vs,h,hv=>by simp only[TT.of]at h;split at h;rename_i y m h1;split at h;rename_i z m' h2;cases h;obtain⟨vs1,k1,rfl⟩:=Jx h1 hv;obtain⟨vs2,k2,rfl⟩:=Jx h2 k1;exact⟨vs2,k2,by simp[Gp]⟩;cases h;cases h
theorem Q8{kt:TT}{v:TV}{x:kt.den}(h:aam kt v=some x):iM v=some (Kz kt x):=by unfold aam at h;split at h;split at h;rename_i vs y h1 h2;split at h;cases h;obtain⟨ZK,k1,rfl⟩:=Jx h2 h1;cases k1;simp only[iM,h1,az,Kz,dW];cases h;cases h;cases h
section
variable (P:Program)
def aaC(t:TypeId)(a b:Value):Option Bool:=
 match a,b,P.underlying t with
 |.int k a,.int k' b,some (.int _)=>if k'=k then some (a==b)else none
 |.bool a,.bool b,some .bool=>some (a==b)
 |_,_,_=>none
def K5(E:TypeId->Value->Value->Option Bool)(xs ys:Array Value):List Field->Option Bool
 |[]=>some true
 |f::fs=>match f.name !="_",cZ P (part f.type xs f.offset),cZ P (part f.type ys f.offset)with
  |true,some a,some b=>match E f.type a b,K5 E xs ys fs with
   |some u,some r=>some (u&&r)
   |_,_=>none
  |_,_,_=>none
def eqV:Nat->TypeId->Value->Value->Option Bool
 |0,t,a,b=>aaC P t a b
 |n+1,t,a,b=>match a,b with
  |.agg xs,.agg ys=>match P.underlying t,P.stoodInHeld t with
   |some (.struct fs),false=>K5 P (eqV n) xs ys fs.toList
   |_,_=>none
  |a,b=>aaC P t a b
end
section
variable {P:Program}
theorem tY{t:TypeId}{fs:Array Field}(h:P.underlying t=some (.struct fs)):P.underlying t=some (.struct (P.fieldsOf t)):=by
 have:P.fieldsOf t=fs:=by simp only[Program.fieldsOf,h]
 rw[this];exact h
theorem Rq{d:Nat}{t:TypeId}{a b:Value}{r:Bool}(h:aaC P t a b=some r):cZ P (Op.equalIn (d+1) t a b)=some r:=by unfold aaC at h;split at h;rename_i k a k' b k2 hu;split at h;rename_i hk;subst hk;cases h;exact Ta d t _ _ a b hu;cases h;rename_i a b hu;cases h;simp only[Op.equalIn,eZ,nF hu,dc];rfl;cases h
theorem EK{E:TypeId->Value->Value->Option Bool}{d:Nat}(hE:∀t a b r,E t a b=some r->cZ P (Op.equalIn d t a b)=some r){xs ys:Array Value}:∀{fs:List Field}{b:Bool},K5 P E xs ys fs=some b->cZ P (Op.eqFields d xs ys fs)=some b
 |[],_,h=>by cases h;exact aci
 |f::fs,b,h=>by
  unfold K5 at h;split at h;rename_i a b' hn ha hb;split at h;rename_i u r h1 h2;cases h;have AK:f.name≠"_":=by simpa using hn
  simp only[Op.eqFields,AK,ne_eq,not_false_eq_true,if_true,eZ,ha,hb,dc,hE _ _ _ _ h1];cases u;rfl;simp only[gQ,aK,if_false,Bool.true_and];exact EK hE h2
  cases h;cases h
theorem Xc:∀{n d:Nat}{t:TypeId}{a b:Value}{r:Bool},n<d->eqV P n t a b=some r->cZ P (Op.equalIn d t a b)=some r
 |0,0,_,_,_,_,hd,_=>ab
 |0,d+1,_,_,_,_,_,h=>Rq h
 |n+1,0,_,_,_,_,hd,_=>ab
 |n+1,d+1,t,a,b,r,hd,h=>by unfold eqV at h;split at h;rename_i xs ys;split at h;rename_i fs h1 h2;rw[uc d t xs ys (tY h1) h2];simp only[Program.fieldsOf,h1];exact EK (λt a b r h=>Xc ab h) h;cases h;exact Rq h
end
variable {P:Program} {ty:gb} {tt:TypeId->cJ} {ι ι' w:lp} {S S':ai} {te mV:cp} {env:cj} {tS iS:cx} {aI:b9} {call:bG} {yf:ez} {o:Oper} {aC nT:Nat} {B:cy} {ops:Array Oper}
theorem MS(h:bZ ι te tS env S)(hT:xV tS nT)(hn:yU S aC)(kt:TT):bZ (upd ι nT aC) te (oC tS nT (.map kt [])) env (fu S aC (.map [])):=by
 have K:=sM h hT hn (.map []);refine⟨bH K _ _ h.env,λk l hk=>?_,λk e s hk t ht=>?_,λk k' hk=>?_,λi j k' hi hj=>?_,λk b hk t ht=>?_⟩;rw[dh hT]at hk;split at hk;cases hk;rename_i e;obtain⟨k',iL,h1,h2,h3⟩:=h.cells k l hk;exact⟨k',iL,by simp only[upd,e,if_false];exact h1,by rw[bN hn,if_neg (h.en hn h1)];exact h2,bH K _ _ h3⟩;rw[dh hT]at hk;split at hk;cases hk;rename_i e';simp only[upd,e',if_false]at ht;obtain⟨n,h1⟩:=h.own k e s hk t ht;exact⟨n,by rw[bN hn,if_neg (h.en hn ht)];exact h1⟩;rw[dh hT];split
 grind
 rename_i e;simp only[upd,e,if_false]at hk;exact h.qB k k' hk;unfold upd at hi hj;split at hi<;>split at hj;omega;cases hi;exact(h.en hn hj rfl).elim
 cases hj;exact(h.en hn hi rfl).elim
 exact h.inj i j k' hi hj;rw[dh hT]at hk;split at hk;rename_i e';cases hk;simp only[upd,e',if_true,aG]at ht;subst ht;rw[bN hn,if_pos rfl];exact rfl
 rename_i e';simp only[upd,e',if_false]at ht;rw[bN hn,if_neg (h.en hn ht)];exact h.mp k b hk t ht
theorem MR(h:bZ ι te tS env S){id jf:Nat}{kt:TT}{l l':List kt.den}(hi:ι id=some jf)(hl:tS[id]? =some (.map kt l)):bZ ι te (tS.set id (.map kt l')) env (S.set jf (.map (CW kt l'))):=by
 have hS:S[jf]? =some (.map (CW kt l)):=h.mp id _ hl jf hi;have hlt:=(aM.1 hl).1;have CQ:=(aM.1 hS).1;have K:jE ι S ι (S.set jf (.map (CW kt l'))) λ_=>False:=λa b _ qA=>⟨qA,by
  rw[aS];split;rename_i e1;subst e1;exact wu (by rw[hS];simp) (by rw[hS];simp) (by rw[hS];simp)
  exact ei rfl⟩
 have hg:∀j,(tS.set id (.map kt l'))[j]? =if j=id then some (.map kt l')else tS[j]? :=λj=>by
  rw[aS];by_cases e:j=id
  grind
  grind
 have s4:∀j,j≠jf->(S.set jf (.map (CW kt l')))[j]? =S[j]? :=λj hj=>by rw[aS,if_neg (Ne.symm hj)]
 refine⟨bH K _ _ h.env,λj m hj=>?_,λj e s hj t ht=>?_,λj j' hj=>?_,h.inj,λj b hj t ht=>?_⟩;rw[hg]at hj;split at hj;cases hj;rename_i e;obtain⟨j',Nv,h1,h2,h3⟩:=h.cells j m hj;exact⟨j',Nv,h1,by rw[s4 j' λe1=>e (h.inj _ _ _ (e1▸h1) hi)];exact h2,bH K _ _ h3⟩;rw[hg]at hj;split at hj;cases hj;obtain⟨n,h1⟩:=h.own j e s hj t ht;exact⟨n,(K j t (λe=>e) ht).2.1 _ _ _ h1⟩;rw[hg];split
 grind
 exact h.qB j j' hj;rw[hg]at hj;split at hj;rename_i e;subst e;cases hj;rw[hi]at ht;cases ht;rw[aS,if_pos rfl,if_pos CQ];exact rfl
 rename_i e;rw[s4 t λe1=>e (h.inj _ _ _ (e1▸ht) hi)];exact h.mp j b hj t ht
theorem acE{id:Nat}{kt:TT}{l l':List kt.den}(hB:oT B tS)(hl:tS[id]? =some (.map kt l)):oT B (tS.set id (.map kt l')):=λk hk=>by obtain⟨c,hc⟩:=hB k hk;refine⟨c,?_⟩;rw[aS,if_neg];exact hc;rintro rfl;rw[hl]at hc;cases c<;>cases hc
theorem Y5{v:TV}{iS:cx}{c:Prop}(h:ad3 P tt te tS o nT=some (v,iS,c))(hc:c):Does P ty aI call yf B o nT te tS false λv' cr bU _=>v'=v/\cr=te/\bU=iS:=by intro ι w env S aC hR hB hw hT hn hS;unfold ad3 at h;split at h;rename_i t ho;split at h;rename_i kt ht;cases h;refine⟨.map aC,fu S aC (.map []),upd ι nT aC,upd w aC nT,.mp nT,te,_,⟨none,true⟩,⟨none,true⟩,λ_=>?_,λhd=>bc,⟨λe=>e,λl hl=>aE⟩,λl m hl=>aE,MS hR hT hn kt,?_,qQ hR hn hT hw,λhd=>bc,tc hn (nM hB hT),jM hB hT,o6 hn,rfl,rfl,rfl⟩;simp only[af,ho];simp[RT,upd];cases h;rename_i t m k ho;split at h;rename_i id u h1 h2;split at h;rename_i kt l h3;split at h;rename_i x h4;cases h;obtain⟨d,k1,k2⟩:=bL hR.env h1;cases d<;>simp only[RT]at k2;rename_i jf;have k3:S[jf]? =some (.map (CW kt l)):=hR.mp id _ h3 jf k2;have k4:valOf (jA env) k=some (Kz kt x):=gv hR.env (by rw[h2];exact Q8 h4);refine⟨.val (.bool (AU kt x l)),S,ι,w,.val (.bool (AU kt x l)),te,tS,⟨none,true⟩,⟨none,true⟩,λ_=>?_,λhd=>bc,⟨λe=>e,λl hl=>aE⟩,λl m hl=>aE,hR,by simp only[RT],hw,λhd=>bc,Fr.refl _ _ _,hB,gA _ _,rfl,rfl,rfl⟩;simp only[af,ho,k1,k4,k3,hc.look x l,dc,KR,BZ];rfl;cases h;cases h;cases h;rename_i t m k y ho;split at h;rename_i id u h1 h2 h5;split at h;rename_i kt l h3;split at h;rename_i x h4;cases h;obtain⟨d,k1,k2⟩:=bL hR.env h1;cases d<;>simp only[RT]at k2;rename_i jf;have k3:S[jf]? =some (.map (CW kt l)):=hR.mp id _ h3 jf k2;have k4:valOf (jA env) k=some (Kz kt x):=gv hR.env (by rw[h2];exact Q8 h4);have k5:valOf (jA env) y=some (.bool true):=gv hR.env (by rw[h5];rfl);obtain⟨r,k6,k7⟩:=hc.find x l;refine⟨bK,S.set jf (.map (CW kt (wX kt x l))),ι,w,.unk,te,_,⟨none,true⟩,⟨none,true⟩,λ_=>?_,λhd=>bc,⟨λe=>e,λl hl=>aE⟩,λl m hl=>aE,MR hR k2 h3,by simp only[RT],hw,λhd=>bc,Ba k2,acE hB h3,A5 k3 (λe=>ar),rfl,rfl,rfl⟩;simp only[af,ho,k1,k4,k5,k3,k6,k7,az];cases h;cases h;cases h;cases h
end Go.Tv
namespace Go.Tv
open Go Go.Di Go.Proofs
def kN(tS:cx)(g:Nat)(t:TT):Option (Nat×List t.den×Bool):=
 match tS[g]? with
 |some (.rows t' e l z)=>if h:t'=t then some (e,h▸l,z)else none
 |_=>none
theorem lV{tS:cx}{g:Nat}{t:TT}{e:Nat}{l:List t.den}{z:Bool}(h:kN tS g t=some (e,l,z)):tS[g]? =some (.rows t e l z):=by
 unfold kN at h;split at h
 grind
 cases h
section
variable (ty:gb) (tt:TypeId->cJ)
def KQ(te:cp)(tS:cx)(o:Oper):Option (TV×Nat×Prop):=
 match o.op with
 |.indexAddr t x i=>match ty t,fT te x,Ir te i with
  |some ⟨.slice _ s _ _,_,_⟩,some (.so g k),some n=>match kN tS g k with
   |some (_,l,_)=>if k.size==s then some (.sp g k n.toNat 0,g,0<=n/\n<(l.length:Int))else none
   |none=>none
  |_,_,_=>none
 |.fieldAddr t x f=>match ty t,fT te x with
  |some ⟨.struct fs,_,_⟩,some (.sp g k i off)=>match fs[f]? with
   |some (o,s,_)=>if 0<s then some (.sp g k i (off+o),g,True)else none
   |none=>none
  |_,_=>none
 |.load t a=>match ty t,fT te a with
  |some d,some (.sp g k i off)=>match kN tS g k with
   |some (_,l,_)=>(xm d.k.isAgg d.size (k.cells (l.getD i k.dft)) off).map λv=>(fV tt t v,g,True)
   |none=>none
  |_,_=>none
 |.call {callee:=.builtin .len,args,argTypes}=>match args.toList,argTypes.toList with
  |[x],[t]=>match ty t,fT te x with
   |some ⟨.slice _ _ _ _,_,_⟩,some (.so g k)=>match kN tS g k with
    |some (_,l,_)=>some (.val (.int .i64 (l.length:Nat)),g,True)
    |none=>none
   |_,_=>none
  |_,_=>none
 |_=>none
def VH(te:cp)(tS:cx)(o:Oper):Option (Nat×cx):=
 match o.op with
 |.store t a x=>match ty t,fT te a,(fT te x).map (fV tt t)with
  |some d,some (.sp g k i off),some v=>match kN tS g k with
   |some (e,l,false)=>if v.Ea&&v.cells.length==d.size then match Ny (k.cells (l.getD i k.dft)) off v.cells with
     |some cs=>match k.of cs with
      |some (y,[])=>some (g,tS.set g (.rows k e (l.set i y) false))
      |_=>none
     |none=>none
    else none
   |_=>none
  |_,_,_=>none
 |_=>none
def VV:TV->Bool
 |.ax=>true
 |.sl _ [] .full=>true
 |_=>false
def VG(te:cp)(tS:cx)(o:Oper)(nT:Nat):Option (TV×cp×cx×Prop):=
 match o.op with
 |.makeSlice t a b=>match ty t,Ir te a,Ir te b,tt t with
  |some ⟨.slice e s mh agg,_,_⟩,some n,some m,some (.sl k)=>match ty e with
   |some ⟨_,_,some z⟩=>match k.of (z.map ur)with
    |some (x,[])=>if decide (0<s)&&k.size==s&&k.agg==agg&&(agg||s==1)&&decide (mh<=100000)then
      some (.so nT k,te,oC tS nT (.rows k e (List.replicate n.toNat x) false),m=n/\0<=n/\n<=1000000000)else none
    |_=>none
   |_=>none
  |_,_,_,_=>none
 |.buildSlice t n ps=>match ty.h o with
  |1=>match ty t,A4 te ps.toList,tt t with
   |some ⟨.slice e s _ agg,_,_⟩,some l,some (.sl k)=>match ty e with
    |some ⟨_,_,some z⟩=>if decide (0<s)&&decide (n*s<=16777216)&&l.length==n&&z.length==s&&k.size==s&&k.agg==agg&&(agg||s==1)then
      (D9 k 0 l).map λw=>(.so nT k,te,oC tS nT (.rows k e w false),True)
     else none
    |_=>none
   |_,_,_=>none
  |_=>none
 |.call {callee:=.builtin .append,args,argTypes}=>match args.toList,argTypes.toList with
  |[x,y],[t,u]=>if t=u then match fT te x with
   |some (.so g k)=>match ty t,(fT te y).map (fV tt t)with
    |some ⟨.slice e s mh agg,_,_⟩,some (.sl k' m _)=>if h:k'=k then match kN tS g k,ty e with
      |some (e',l,false),some ⟨_,_,some _⟩=>if e'==e&&k.size==s&&k.agg==agg&&decide (mh<=100000)then
       some (.so g k,kL g te,(tS.map (qH g)).set g (.rows k e (l++(h▸m)) false),l.length+m.length<=1000000000)else none
      |_,_=>none
     else none
    |_,_=>none
   |some v=>match ty.h o with
    |1=>match ty t,(fT te y).map (fV tt t)with
     |some ⟨.slice e s mh agg,_,_⟩,some (.sl k' (a::m) _)=>match ty e with
      |some ⟨_,_,some _⟩=>if VV v&&decide (0<s)&&k'.size==s&&k'.agg==agg&&(agg||s==1)&&decide (mh<=100000)then
       some (.so nT k',te,oC tS nT (.rows k' e (a::m) false),(a::m).length<=1000000000)else none
      |_=>none
     |_,_=>none
    |_=>none
   |none=>none
   else none
  |_,_=>none
 |_=>none
end
variable {P:Program} {ty:gb} {tt:TypeId->cJ} {ι ι' w:lp} {S S':ai} {te mV:cp} {env:cj} {tS iS:cx} {aI:b9} {call:bG} {yf:ez} {o:Oper} {aC nT:Nat} {B:cy} {ops:Array Oper}
theorem yB{t:TT}:∀{l:List t.den}{ds:cj}{i:Nat},fW t l ds->i<l.length->∃pre c post,ds=pre++c++post/\pre.length=i*t.size/\CR t (l.getD i t.dft) c/\∀y c',CR t y c'->fW t (l.set i y) (pre++c'++post)
 |[],_,_,_,h=>by simp at h
 |x::l,ds,i,hf,h=>by
  simp only[fW]at hf;obtain⟨c,m,rfl,h1,h2⟩:=hf;cases i with
  |zero=>exact⟨[],c,m,rfl,ae,h1,λy c' hc=>by simp only[List.set_cons_zero,fW];exact⟨c',m,rfl,hc,h2⟩⟩
  |succ i=>obtain⟨pre,c1,post,rfl,k1,k2,k3⟩:=yB (i:=i) h2 (by simpa using h);refine⟨c++pre,c1,post,ae,by rw[cn,oJ h1,k1,j8,Nat.one_mul,nO],by simpa using k2,λy c' hc=>?_⟩;simp only[List.set_cons_succ,fW];exact⟨c,pre++c'++post,ae,h1,k3 y c' hc⟩
theorem Mo{t:TT}:∀{l m:List t.den}{ds es:cj},fW t l ds->fW t m es->fW t (l++m) (ds++es)
 |[],_,ds,_,h,k=>by simp only[fW]at h;subst h;exact k
 |x::l,m,ds,es,h,k=>by simp only[fW]at h;obtain⟨c,r,rfl,h1,h2⟩:=h;simp only[pq,fW];exact⟨c,r++es,ae,h1,Mo h2 k⟩
theorem EH{t:TT}{x:t.den}{c:cj}(h:CR t x c):∀n,fW t (List.replicate n x) (List.replicate n c).flatten
 |0=>by simp[fW]
 |n+1=>by simp only[zJ,List.flatten_cons,fW];exact⟨c,_,rfl,h,EH h n⟩
theorem uf{t:TT}{agg:Bool}:∀{l:List t.den}{rows:cj},eX (CR t) agg l rows->fW t l (flat rows)
 |[],[],_=>by simp[flat,fW]
 |x::l,r::rows,h=>by simp only[flat,cz,fW];exact⟨r.cells,_,rfl,h.1.1,uf h.2⟩
theorem xI{t:TT}:∀{qs:List (Nat×DV)}{i:Nat}{l:List t.den},GJ t i qs l->fW t l (jJ qs)
 |[],_,[],_=>by simp[jJ,fW]
 |(j,d)::qs,i,x::l,h=>by obtain⟨⟨rfl,hc⟩,h⟩:=h;simp only[jJ,cz,fW];exact⟨d.strip.cells,_,rfl,hc,xI h⟩
theorem EO:∀{t:TT}{x:t.den}{c:cj},CR t x (c.map DV.aO)->c.all DV.ct=true->CR t x c
 |.int _,_,c,h,hp=>by simp only[CR]at h⊢;obtain⟨d,rfl⟩:∃d,c=[d]:=List.length_eq_one_iff.1 (by have:=congrArg List.length h;simpa using this);cases d<;>simp_all [DV.aO]
 |.bool,_,c,h,hp=>by simp only[CR]at h⊢;obtain⟨d,rfl⟩:∃d,c=[d]:=List.length_eq_one_iff.1 (by have:=congrArg List.length h;simpa using this);cases d<;>simp_all [DV.aO]
 |.str,_,c,h,hp=>by simp only[CR]at h⊢;obtain⟨d,rfl⟩:∃d,c=[d]:=List.length_eq_one_iff.1 (by have:=congrArg List.length h;simpa using this);cases d<;>simp_all [DV.aO]
 |.unit,_,c,h,_=>by simp only[CR]at h⊢;simpa using h
 |.pair a b,x,c,h,hp=>by simp only[CR]at h⊢;obtain⟨c1,c2,e,h1,h2⟩:=h;obtain⟨d1,d2,rfl,rfl,rfl⟩:=List.map_eq_append_iff.1 e;rw[qZ,aD]at hp;exact⟨d1,d2,rfl,EO h1 hp.1,EO h2 hp.2⟩
 |.sl t,l,c,h,hp=>by
  simp only[CR]at h⊢;obtain⟨rows,f,e,h⟩:=h;obtain⟨d,rfl⟩:∃d,c=[d]:=List.length_eq_one_iff.1 (by have:=congrArg List.length e;simpa using this);cases d<;>simp[DV.aO]at e;rename_i r tok f';obtain⟨rfl,-⟩:=e;cases tok with
  |some=>simp[DV.ct]at hp
  |none=>exact⟨r,f',rfl,h⟩
theorem F4(d:DV):d.aO.aO=d.aO:=by cases d<;>rfl
theorem JU{v:TV}{d:DV}(hk:v.Ea=true)(h:RT ι S v d):d.strip.cells=d.cells.map DV.aO:=by cases v<;>cases d<;>simp only[RT]at h<;>first|(cases hk;done)|rfl
theorem Tl{agg:Bool}{n off:Nat}{pre c post:cj}{d:DV}(h:pY agg n c off=some d):pY agg n (pre++c++post) (pre.length+off)=some d:=by
 unfold pY at h⊢;cases agg with
 |true=>simp only[if_true,ah]at h⊢;obtain⟨cs,h1,rfl⟩:=h;refine⟨cs,?_,rfl⟩;unfold Vq at h1⊢;split at h1;rename_i hle;cases h1;rw[if_pos (by simp;omega),iO,zB,ki ab,jq,tM,List.drop_append_of_le_length ab,List.take_append_of_le_length (by simp;omega)];cases h1
 |false=>grind
theorem Yg{off:Nat}{pre c post cs c':cj}(h:wV c off cs=some c'):wV (pre++c++post) (pre.length+off) cs=some (pre++c'++post):=by
 unfold wV at h⊢;split at h;rename_i hle;cases h;have e1:(pre++c++post).take (pre.length+off)=pre++c.take off:=by rw[iO,List.take_append,List.take_of_length_le ab,tM,List.take_append_of_le_length ab]
 have e2:(pre++c++post).drop (pre.length+off+cs.length)=c.drop (off+cs.length)++post:=by rw[iO,gf,zB,ki ab,jq,tM,List.drop_append_of_le_length ab]
 rw[if_pos (by simp;omega),e1,e2];simp[iO];cases h
theorem acO(h:bZ ι te tS env S){g i off:Nat}{t:TT}{e:Nat}{l:List t.den}{z:Bool}{d:DV}(hg:tS[g]? =some (.rows t e l z))(hd:RT ι S (.sp g t i off) d):∃id ds,d=.gF id l.length (i*t.size+off)/\ι g=some id/\S[id]? =some (.op e t.size ds z)/\C2 S id l.length=some (e,t.size,ds,z)/\fW t l ds/\i<l.length/\0<t.size/\(t.agg||t.size==1)=true:=by
 cases d<;>simp only[RT]at hd;rename_i id n s6;obtain⟨h1,rfl,e',s',l',z',h2,h3,h4⟩:=hd;obtain⟨q0,q1,ds,q2,q3⟩:=h.mp g _ hg id h1;rw[h2]at q2;cases q2;have hl:=jb q3;have hn:n=l.length:=Nat.eq_of_mul_eq_mul_right q0 (h3.trans hl);subst hn;refine⟨id,l',rfl,h1,h2,?_,q3,?_,q0,q1⟩;unfold C2;rw[h2];simp only[h3,if_true];rw[<-h3]at h4;have:i*t.size<l.length*t.size:=ab
 exact Nat.lt_of_mul_lt_mul_right this
theorem Fc{v:TV}{g:Nat}{c:Prop}(h:KQ ty tt te tS o=some (v,g,c))(hc:c)(hR:bZ ι te tS env S):∃d id,(∀aC,af P ty aI call yf (jA env) o S aC=some (d,S))/\RT ι S v d/\ι g=some id/\((∃t a f,o.op=.fieldAddr t a f/\∃n off,jA env a=some (.gF id n off))\/(∃t a i,o.op=.indexAddr t a i/\∃n ag,jA env a=some (.jX id n ag))\/(∃t a,o.op=.load t a/\∃n off,jA env a=some (.gF id n off))\/∃args ats,o.op=.call {callee:=.builtin .len,args,argTypes:=ats}):=by
 unfold KQ at h;split at h;rename_i t x i ho;split at h;rename_i e s mh agg sz z g' k n h1 h2 h3;split at h;rename_i e' l zz h4;split at h;rename_i h5;cases h;have hg:=lV h4;obtain⟨d,k1,k2⟩:=bL hR.env h2;obtain⟨id,ds,rfl,m1,m2,m3,m4,m5,m6⟩:=Gs hR hg k2 rfl;have hs:k.size=s:=by simpa using h5
 have hl:=jb m4;have hi:intOf (jA env) i=some n:=qV hR.env h3;obtain⟨c1,c2⟩:=hc;refine⟨.gF id l.length (n.toNat*s),id,λaC=>?_,?_,m1,.inr (.inl ⟨t,x,i,ho,_,_,k1⟩)⟩;simp only[af,ho,h1,k1,hi,m3];rw[if_pos ⟨c1,ab,hs⟩];simp only[RT];refine⟨m1,by rw[hs];rfl,e',k.size,ds,zz,m2,hl.symm,?_⟩;rw[hl,<-nN];exact fH _ ab;cases h;cases h;cases h;rename_i t x f ho;split at h;rename_i fs sz z g' k i off h1 h2;split at h;rename_i of s ag hf;split at h;rename_i hs;cases h;obtain⟨d,k1,k2⟩:=bL hR.env h2;cases d<;>simp only[RT]at k2;rename_i id n s6;obtain⟨m1,rfl,e',s',l',z',m2,m3,m4⟩:=k2;have hop:C2 S id n=some (e',s',l',z'):=by unfold C2;rw[m2];simp only[m3,if_true]
 refine⟨.gF id n (i*k.size+off+of),id,λaC=>?_,?_,m1,.inl ⟨t,x,f,ho,_,_,k1⟩⟩;simp only[af,ho,h1,k1,hf,hop,if_pos hs];simp only[RT];exact⟨m1,ab,e',s',l',z',m2,m3,m4⟩;cases h;cases h;cases h;rename_i t a ho;split at h;rename_i td g' k i off h1 h2;split at h;rename_i e' l zz h4;simp only[ah,aA]at h;obtain⟨u,h5,rfl,rfl,-⟩:=h;have hg:=lV h4;obtain⟨d,k1,k2⟩:=bL hR.env h2;obtain⟨id,ds,rfl,m1,m2,m3,m4,m5,m6,m7⟩:=acO hR hg k2;obtain⟨pre,c,post,rfl,q1,q2,-⟩:=yB m4 m5;obtain⟨d,q3,q4⟩:=sB (qu (ι:=ι) (S:=S) q2) h5;refine⟨d,id,λaC=>?_,dn q4,m1,.inr (.inr (.inl ⟨t,a,ho,_,_,k1⟩))⟩;simp only[af,ho,k1,lQ,h1,m3];rw[<-q1,Tl q3];rfl;cases h;cases h;rename_i args ats ho;split at h;rename_i x t ha ht;split at h;rename_i e s mh agg sz z g' k h1 h2;split at h;rename_i e' l zz h4;cases h;have hg:=lV h4;obtain⟨d,k1,k2⟩:=bL hR.env h2;obtain⟨id,ds,rfl,m1,m2,m3,m4,m5,m6⟩:=Gs hR hg k2 rfl;refine⟨.val (.int .i64 (l.length:Nat)),id,λaC=>?_,by simp only[RT],m1,.inr (.inr (.inr ⟨_,_,ho⟩))⟩;simp only[af,ho,ha,ht,h1,k1];cases h;cases h;cases h;cases h
theorem Fs{v:TV}{g:Nat}{c:Prop}(h:KQ ty tt te tS o=some (v,g,c))(hc:c)(dr:Bool):Does P ty aI call yf B o nT te tS dr λv' cr bU ft=>v'=v/\cr=te/\bU=tS/\ft=⟨some [g],false⟩:=by
 intro ι w env S aC hR hB hw hT hn hS;obtain⟨d,id,h1,h2,h3,h4⟩:=Fc (P:=P) (aI:=aI) (call:=call) (yf:=yf) h hc hR;have hl:∃l,aJ P ty aI call yf (jA env) o S aC=some (d,S,⟨some l,false⟩)/\∀j∈l,j=id:=by rcases h4 with ⟨t,a,f,ho,n,off,ha⟩|⟨t,a,i,ho,n,ag,ha⟩|⟨t,a,ho,n,off,ha⟩|⟨args,ats,ho⟩;exact⟨[id],by simp only[aJ,ho,ha,h1,az],ae⟩;exact⟨[id],by simp only[aJ,ho,ha,h1,az],ae⟩;exact⟨[id],by simp only[aJ,ho,ha,h1,az],ae⟩;exact⟨[],by simp only[aJ,ho,h1,az],ae⟩
 obtain⟨l,h5,h6⟩:=hl;refine⟨d,S,ι,w,v,te,tS,⟨some l,false⟩,⟨some [g],false⟩,λ_=>h1 aC,λ_=>h5,⟨λe=>e,λl' kP=>?_⟩,λl' m _ hm j hj=>?_,hR,h2,hw,λ_ _ _=>rfl,Fr.refl _ _ _,hB,gA _ _,rfl,rfl,rfl,rfl⟩;cases kP;exact⟨l,rfl,λj hj=>⟨g,ae,by rw[h6 j hj];exact hw _ _ h3⟩⟩
 grind
theorem Xu{k:Nat}{v:TV}{g:Nat}{c:Prop}{Q:cp->Prop}(ho:ops[k]? =some o)(hw:eE ops te o=some true)(h:KQ ty tt te tS o=some (v,g,c))(hc:c)(hq:WQ P ty aI call yf ops tS (k+1) (kC te o.dst v) Q):WQ P ty aI call yf ops tS k te Q:=by
 intro ι env S hR;obtain⟨d,id,h1,h2,h3,h4⟩:=Fc (P:=P) (aI:=aI) (call:=call) (yf:=yf) h hc hR;obtain⟨aL,cr,n1,n2,n3⟩:=hq ι (kH env o.dst d) S (oZ hR h2 _);refine⟨aL,cr,?_,n2,n3⟩;rw[o9 ho];have hq:dO P ty aI call yf (jA env) o S=some d:=by rcases h4 with ⟨t,a,f,ho,n,off,ha⟩|⟨t,a,i,ho,n,ag,ha⟩|⟨t,a,ho,n,off,ha⟩|⟨args,ats,ho⟩<;>simp only[dO,ho,h1,az]
 simp only[rF,iP hR.env hw,if_true,hq,n1]
end Go.Tv
