import Derived.Test.YtadeehilamokkaaGreatDoorPk01
namespace Go.Tv
open Go Go.Di
def TV.cells:TV->cp
 |.agg l=>l
 |v=>[v]
def TV.known:TV->Bool
 |.unk=>false
 |_=>true
def TV.DY:TV->Bool
 |.unk|.tup _=>false
 |_=>true
def s6:DV->TV
 |.val v=>.val v
 |.sl [] none ⟨true,some true⟩=>.jD
 |_=>.unk
def aai:DV->TV
 |.agg l=>.agg (l.map s6)
 |.fn f [] []=>.fn f [] []
 |d=>s6 d
inductive TB where
 |none
 |cells (l:cp)
 |own (e s:Nat)
 |map (kt:TT) (l:List kt.den)
 |rows (t:TT) (e:Nat) (l:List t.den) (z:Bool)
 |loop
abbrev dk:=List TB
abbrev cx:=List TB
instance:Inhabited TB:=⟨.none⟩
section
variable (P:Program) (ty:fo) (tt:TypeId->cJ)
def eL(te:cp):Operand->Option TV
 |.tmp t=>some (te.getD t .unk)
 |.const v=>(wF v).map aai
 |.func f=>some (.fn f [] [])
 |.global _=>none
def lD(te:cp):List Operand->Option cp
 |[]=>some []
 |x::l=>match eL te x,lD te l with
  |some d,some r=>some (d::r)
  |_,_=>none
def Ay(te:cp):List (Nat×Operand)->Option (List (Nat×TV))
 |[]=>some []
 |(i,x)::l=>match eL te x,Ay te l with
  |some d,some r=>some ((i,d)::r)
  |_,_=>none
def iw:cp->Option (List Value)
 |[]=>some []
 |.val v::l=>(iw l).map (v::·)
 |_=>none
def fJ:TV->Option Value
 |.val v=>some v
 |.agg l=>(iw l).map λr=>.agg r.toArray
 |_=>none
def yF:cp->Option (List Value)
 |[]=>some []
 |d::l=>match fJ d,yF l with
  |some v,some r=>some (v::r)
  |_,_=>none
def Ih(te:cp)(x:Operand):Option Int:=
 match eL te x with
 |some (.val (.int _ n))=>some n
 |_=>none
def fA(t:TypeId)(v:TV):TV:=
 match v with
 |.jD=>match tt t with
  |some (.sl e)=>.sl e [] .full
  |_=>.jD
 |v=>v
def aej(l:cp)(off n:Nat):Option cp:=if off+n<=l.length then some ((l.drop off).take n)else none
def Nc(l:cp)(off:Nat)(cs:cp):Option cp:=if off+cs.length<=l.length then some (l.take off++cs++l.drop (off+cs.length))else none
def wD(agg:Bool)(size:Nat)(l:cp)(off:Nat):Option TV:=if agg then(aej l off size).map .agg else l[off]?
def Kw(place:Nat->Option (Nat×Nat))(cs:cp):List (Nat×TV)->Option cp
 |[]=>some cs
 |(i,v)::r=>match place i with
  |none=>none
  |some (off,size)=>if v.known&&v.cells.length==size then match Nc cs off v.cells with
    |some iB=>Kw place iB r
    |none=>none
   else none
def tI:Option DV->Option TV
 |some (.val v)=>some (.val v)
 |_=>none
def DW(t:TT)(i:Nat):List (Nat×TV)->Option (List t.den)
 |[]=>some []
 |(j,v)::r=>if j==i&&v.DY then match t.of v.cells,DW t (i+1) r with
   |some (x,[]),some l=>some (x::l)
   |_,_=>none
  else none
def VF(t:Bool):Option TV->Option TV->Option TV
 |some (.val (.bool x)),some (.val (.bool y))=>some (.val (.bool (bif t then x else y)))
 |some (.val (.int k x)),some (.val (.int k' y))=>if k'=k then some (.val (.int k (bif t then x else y)))else none
 |a,b=>match t with
  |true=>a
  |false=>b
def aab(te:cp):Option Operand->Option (Option Value)
 |none=>some none
 |some x=>((eL te x).bind fJ).map some
def VA(P:Program)(te:cp)(t:TypeId)(x:Operand)(lo hi mx:Option Operand):Option (TV×Prop):=
 match eL te x,P.underlying t,aab te lo,aab te hi,mx with
 |some (.val (.string b)),some .string,some l,some h,none=>match ixV 0 l,ixV b.size h with
  |some a,some c=>some (.val (.string (b.extract a.toNat c.toNat)),0<=a/\a<=c/\c<=(b.size:Int))
  |_,_=>none
 |_,_,_,_,_=>none
def NB(P:Program)(te:cp)(t:TypeId)(x i:Operand):Option (TV×Prop):=
 match eL te x,P.underlying t,(eL te i).bind fJ with
 |some (.val (.string b)),some .string,some (.int _ n)=>some (.val (.int .u8 ((b.data.toList.getD n.toNat 0).toNat:Nat)),0<=n/\n<(b.size:Int))
 |_,_,_=>none
def strOf(P:Program)(te:cp)(s d:TypeId)(x:Operand):Option (TV×Prop):=
 match eL te x,P.underlying s,P.underlying d with
 |some (.sl (.int .u8) l _),some (.slice e),some .string=>match P.underlying e with
  |some (.int .u8)=>some (.val (.string ⟨(l.map λ(n:Int)=>UInt8.ofNat n.toNat).toArray⟩),True)
  |_=>none
 |_,_,_=>none
def D1(te:cp):Option Operand->Option (Option Int)
 |none=>some none
 |some x=>(Ih te x).map some
def akh(o:Option Int)(we:Nat):Prop:=
 match o with
 |none=>True
 |some n=>0<=n/\n<=(we:Int)
def Wt(t:TT)(l:List t.den)(lo hi mx:Option Int):TV×Prop:=
 match mx with
 |none=>match hi with
  |none=>match lo with
   |none=>(.sl t l .no,True)
   |some a=>(.sl t (l.drop a.toNat) .no,0<=a/\a<=(l.length:Int))
  |some h=>match lo with
   |none=>(.sl t (l.take h.toNat) .no,0<=h/\h<=(l.length:Int))
   |some a=>(.sl t ((l.take h.toNat).drop a.toNat) .no,0<=a/\a<=h/\h<=(l.length:Int))
 |some m=>match hi with
  |none=>(.unk,False)
  |some h=>match lo with
   |none=>(.sl t (l.take h.toNat) .full,0<=h/\h=m/\h<=(l.length:Int))
   |some a=>(.sl t ((l.take h.toNat).drop a.toNat) .full,0<=a/\a<=h/\h=m/\h<=(l.length:Int))
def bI(te:cp)(tS:cx)(o:Oper):Option (TV×Prop):=
 match o.op with
 |.move x|.assign x=>(eL te x).map λv=>(fA tt o.type v,True)
 |.pick c a b=>match eL te c with
  |some (.val (.bool t))=>(VF t (eL te a) (eL te b)).map (·,True)
  |_=>none
 |.build t ps=>match ty t,Ay te ps.toList with
  |some ⟨.struct fs,_,some z⟩,some l=>(Kw (λi=>(fs[i]?).map λf=>(f.1,f.2.1)) (z.map s6) l).map λcs=>(.agg cs,True)
  |some ⟨.array _ s _,_,some z⟩,some l=>(Kw (λi=>some (i*s,s)) (z.map s6) l).map λcs=>(.agg cs,True)
  |_,_=>none
 |.buildSlice t n ps=>match ty t,Ay te ps.toList,tt t with
  |some ⟨.slice e s _ agg,_,_⟩,some l,some (.sl k)=>match ty e with
   |some ⟨_,_,some z⟩=>if decide (0<s)&&decide (n*s<=16777216)&&l.length==n&&z.length==s&&k.size==s&&k.agg==agg&&(agg||s==1)&&ty.h o !=1 then
     (DW k 0 l).map λl=>(.sl k l .full,True)
    else none
   |_=>none
  |_,_,_=>none
 |.load t a=>match ty t,eL te a with
  |some d,some (.ptr id off)=>match tS[id]? with
   |some (.cells l)=>(wD d.k.isAgg d.size l off).map λv=>(fA tt t v,True)
   |_=>none
  |some d,some (.eU e l i off)=>(wD d.k.isAgg d.size (e.cells (l.getD i e.dft)) off).map λv=>(fA tt t v,True)
  |_,_=>none
 |.nilCheck x=>match eL te x with
  |some (.ptr id off)=>some (.ptr id off,True)
  |_=>none
 |.binOp op t x y _=>match(eL te x).bind fJ,(eL te y).bind fJ with
  |some a,some b=>(tI (fG P (do eqGuard op t x y a b;binOp op t a b))).map (·,True)
  |_,_=>none
 |.unOp op _ x=>match(eL te x).bind fJ with
  |some a=>(tI (fG P (Op.unary op a))).map (·,True)
  |none=>none
 |.convert s d x=>match(eL te x).bind fJ with
  |some a=>(tI (fG P (Go.convert s d a))).map (·,True)
  |none=>strOf P te s d x
 |.makeFunc (.func f) fs cs=>match lD te fs.toList,lD te cs.toList with
  |some a,some b=>some (.fn f a b,True)
  |_,_=>none
 |.slice t x lo hi mx=>match ty t,(eL te x).map (fA tt t),D1 te lo,D1 te hi,D1 te mx with
  |some ⟨.slice _ s _ _,_,_⟩,some (.sl k l _),some lo,some hi,some mx=>if k.size==s then some (Wt k l lo hi mx)else none
  |_,_,_,_,_=>VA P te t x lo hi mx
 |.fieldAddr t x f=>match ty t,eL te x with
  |some ⟨.struct fs,_,_⟩,some (.ptr id off)=>match fs[f]? with
   |some (o,s,_)=>if 0<s then some (.ptr id (off+o),True)else none
   |none=>none
  |some ⟨.struct fs,_,_⟩,some (.eU k l i off)=>match fs[f]? with
   |some (o,s,_)=>if 0<s then some (.eU k l i (off+o),True)else none
   |none=>none
  |_,_=>none
 |.field t x f=>match ty t,eL te x with
  |some ⟨.struct fs,_,_⟩,some (.agg l)=>match fs[f]? with
   |some (off,s,agg)=>(wD agg s l off).map (·,True)
   |none=>none
  |_,_=>none
 |.indexAddr t x i=>match ty t,(eL te x).map (fA tt t),Ih te i with
  |some ⟨.slice _ s _ _,_,_⟩,some (.sl k l _),some n=>if k.size==s then some (.eU k l n.toNat 0,0<=n/\n<(l.length:Int))else none
  |some ⟨.array k s _,_,_⟩,some (.ptr id off),some n=>if 0<=n/\n.toNat<k then some (.ptr id (off+n.toNat*s),True)else none
  |some ⟨.array k s _,_,_⟩,some (.eU e l j off),some n=>if 0<=n/\n.toNat<k then some (.eU e l j (off+n.toNat*s),True)else none
  |_,_,_=>none
 |.index t x i=>match ty t,eL te x,Ih te i with
  |some ⟨.array k s agg,_,_⟩,some (.agg l),some n=>if 0<=n/\n.toNat<k then(wD agg s l (n.toNat*s)).map (·,True)else none
  |_,_,_=>NB P te t x i
 |.extract t i=>match eL te t with
  |some (.tup l)=>(l[i]?).map λv=>(fA tt o.type v,True)
  |_=>none
 |.call {callee:=.builtin b,args,argTypes}=>match b,args.toList,argTypes.toList with
  |.len,[x],[t]=>match ty t,(eL te x).map (fA tt t)with
   |some ⟨.slice _ _ _ _,_,_⟩,some (.sl _ l _)=>some (.val (.int .i64 (l.length:Nat)),True)
   |some ⟨.array n _ _,_,_⟩,_=>some (.val (.int .i64 n),True)
   |_,some (.val v)=>(tI (fG P (Builtin.len_ #[t] o.type #[v]))).map (·,True)
   |_,_=>none
  |.min,xs,_=>match(lD te xs).bind yF with
   |some vs=>(tI (fG P (Builtin.min_ argTypes o.type vs.toArray))).map (·,True)
   |none=>none
  |.max,xs,_=>match(lD te xs).bind yF with
   |some vs=>(tI (fG P (Builtin.max_ argTypes o.type vs.toArray))).map (·,True)
   |none=>none
  |_,_,_=>none
 |_=>none
end
section
variable {P:Program} {ty:fo} {tt:TypeId->cJ} {ι:kW} {S:aj} {te:cp} {env:cn} {tS:cx}
theorem uv{v:TV}{d:DV}(hk:v.known=true)(h:RT ι S v d):cq ι S v.cells d.cells:=by cases v<;>cases d<;>simp only[RT]at h<;>first|(cases hk;done)|exact h|(refine kI ?_;simp only[RT];exact h)
theorem Ww(d:DV):RT ι S (s6 d) d:=by unfold s6;split<;>simp[RT]
theorem vh:∀l:cn,cq ι S (l.map s6) l
 |[]=>bJ
 |d::l=>aP (Ww d) (vh l)
theorem agS(d:DV):RT ι S (aai d) d:=by
 unfold aai;split;simp only[RT];exact vh _
 simp only[RT,cq,and_true];exact Ww _
theorem bp(h:cq ι S te env){x:Operand}{v:TV}(hx:eL te x=some v):∃d,ir env x=some d/\RT ι S v d:=by
 cases x with
 |tmp t=>cases hx;exact⟨_,rfl,Eb h t⟩
 |const u=>simp only[eL,af]at hx;obtain⟨d,h1,rfl⟩:=hx;exact⟨d,h1,agS d⟩
 |func f=>cases hx;exact⟨_,rfl,by simp only[RT,cq,and_true]⟩
 |global g=>cases hx
theorem sA(h:cq ι S te env):∀{xs:List Operand}{vs:cp},lD te xs=some vs->∃ds,evs (ir env) xs=some ds/\cq ι S vs ds
 |[],_,hx=>by cases hx;exact⟨[],rfl,bJ⟩
 |x::l,vs,hx=>by simp only[lD]at hx;split at hx;rename_i d r h1 h2;cases hx;obtain⟨d',k1,k2⟩:=bp h h1;obtain⟨ds,k3,k4⟩:=sA h h2;exact⟨d'::ds,by simp only[evs,k1,k3],aP k2 k4⟩;cases hx
def D6(ι:kW)(S:aj):List (Nat×TV)->List (Nat×DV)->Prop
 |[],[]=>True
 |(i,v)::l,(j,d)::m=>(j=i/\RT ι S v d)/\D6 ι S l m
 |_,_=>False
theorem rI(h:cq ι S te env):∀{xs:List (Nat×Operand)}{vs:List (Nat×TV)},Ay te xs=some vs->∃ds,ku (ir env) xs=some ds/\D6 ι S vs ds
 |[],_,hx=>by cases hx;exact⟨[],rfl,trivial⟩
 |(i,x)::l,vs,hx=>by simp only[Ay]at hx;split at hx;rename_i d r h1 h2;cases hx;obtain⟨d',k1,k2⟩:=bp h h1;obtain⟨ds,k3,k4⟩:=rI h h2;exact⟨(i,d')::ds,by simp only[ku,k1,k3],⟨rfl,k2⟩,k4⟩;cases hx
theorem BO:∀{l:cp}{m:cn}{vs:List Value},cq ι S l m->iw l=some vs->sj m=some vs
 |[],m,vs,h,hx=>by rw[aO h];exact hx
 |a::l,m,vs,h,hx=>by
  obtain⟨d,m',rfl,h1,h2⟩:=ax h;unfold iw at hx;split at hx
  grind
  rename_i v l' e;cases e;simp only[af]at hx;obtain⟨r,h3,rfl⟩:=hx;cases d<;>simp only[RT]at h1;subst h1;simp only[sj,BO h2 h3,ay];cases hx
theorem GD{v:TV}{d:DV}{u:Value}(h:RT ι S v d)(hx:fJ v=some u):wA d=some u:=by unfold fJ at hx;split at hx;cases hx;cases d<;>simp only[RT]at h;subst h;rfl;simp only[af]at hx;obtain⟨r,h1,rfl⟩:=hx;cases d<;>simp only[RT]at h;simp only[wA,BO h h1,ay];cases hx
theorem xB:∀{l:cp}{m:cn}{vs:List Value},cq ι S l m->yF l=some vs->uk m=some vs
 |[],m,vs,h,hx=>by rw[aO h];exact hx
 |a::l,m,vs,h,hx=>by obtain⟨d,m',rfl,h1,h2⟩:=ax h;simp only[yF]at hx;split at hx;rename_i v r e1 e2;cases hx;simp only[uk,GD h1 e1,xB h2 e2];cases hx
theorem dF(h:cq ι S te env){x:Operand}{u:Value}(hx:(eL te x).bind fJ=some u):valOf (ir env) x=some u:=by
 cases h1:eL te x with
 |none=>rw[h1]at hx;cases hx
 |some v=>rw[h1]at hx;obtain⟨d,h2,h3⟩:=bp h h1;simp only[valOf,h2,bQ];exact GD h3 hx
theorem qu(h:cq ι S te env){x:Operand}{n:Int}(hx:Ih te x=some n):intOf (ir env) x=some n:=by unfold Ih at hx;split at hx;rename_i k m h1;cases hx;obtain⟨d,h2,h3⟩:=bp h h1;cases d<;>simp only[RT]at h3;subst h3;simp only[intOf,h2];cases hx
theorem cN{t:TypeId}{v:TV}{d:DV}(h:RT ι S v d):RT ι S (fA tt t v) d:=by unfold fA;split;split;cases d<;>simp only[RT]at h;obtain⟨rfl,rfl,rfl⟩:=h;simp only[RT,ei,qb,and_self];exact h;exact h
theorem acf{l:cp}{m:cn}(h:cq ι S l m){off n:Nat}{r:cp}(hx:aej l off n=some r):∃r',Vr m off n=some r'/\cq ι S r r':=by unfold aej at hx;split at hx;cases hx;rename_i hle;exact⟨_,if_pos (by rw[gY h];exact hle),Ea _ (Ec _ h)⟩;cases hx
theorem I9{l:cp}{m:cn}(h:cq ι S l m){cs:cp}{ds:cn}(hc:cq ι S cs ds){off:Nat}{r:cp}(hx:Nc l off cs=some r):∃r',vY m off ds=some r'/\cq ι S r r':=by unfold Nc at hx;split at hx;cases hx;rename_i hle;refine⟨_,if_pos (by rw[gY h,gY hc];exact hle),eH (eH (Ea _ h) hc) ?_⟩;rw[gY hc];exact Ec _ h;cases hx
theorem ry{l:cp}{m:cn}(h:cq ι S l m){agg:Bool}{size off:Nat}{r:TV}(hx:wD agg size l off=some r):∃r',pg agg size m off=some r'/\RT ι S r r':=by unfold wD at hx;split at hx;rename_i ha;simp only[af]at hx;obtain⟨r1,h1,rfl⟩:=hx;obtain⟨r',h2,h3⟩:=acf h h1;exact⟨.agg r',by simp only[pg,ha,if_true,h2,ay],by simp only[RT];exact h3⟩;rename_i ha;obtain⟨d,h1,h2⟩:=vk h hx;exact⟨d,by simp only[pg,ha,h1];rfl,h2⟩
theorem Ey{place:Nat->Option (Nat×Nat)}:∀{ps:List (Nat×TV)}{qs:List (Nat×DV)}{l:cp}{m:cn}{r:cp},D6 ι S ps qs->cq ι S l m->Kw place l ps=some r->∃r',kY place m qs=some r'/\cq ι S r r'
 |[],[],l,m,r,_,h,hx=>by cases hx;exact⟨m,rfl,h⟩
 |(i,v)::ps,(j,d)::qs,l,m,r,hp,h,hx=>by obtain⟨⟨rfl,hv⟩,hp⟩:=hp;simp only[Kw]at hx;split at hx;cases hx;rename_i off size Ck;split at hx;rename_i hc;simp only[aC,dQ]at hc;have nR:=uv hc.1 hv;split at hx;rename_i iB oW;obtain⟨m',h1,h2⟩:=I9 h nR oW;obtain⟨r',h3,h4⟩:=Ey hp h2 hx;refine⟨r',?_,h4⟩;simp only[kY,Ck,gY nR,hc.2,if_true,h1,h3];cases hx;cases hx
theorem vc{o:Option DV}{v:TV}(h:tI o=some v):∃d,o=some d/\RT ι S v d:=by
 unfold tI at h;split at h;cases h;exact⟨_,rfl,by simp only[RT]⟩
 cases h
theorem Yj{t:Bool}{a b:Option TV}{v:TV}{a' b':Option DV}(ha:∀v,a=some v->∃d,a'=some d/\RT ι S v d)(hb:∀v,b=some v->∃d,b'=some d/\RT ι S v d)(h:VF t a b=some v):∃d,(if t then a' else b')=some d/\RT ι S v d:=by
 unfold VF at h;split at h
 grind
 grind
 grind
end
end Go.Tv
namespace Go.Tv
open Go Go.Di
variable {P:Program} {ty:fo} {tt:TypeId->cJ} {ι:kW} {S:aj} {te:cp} {env:cn} {tS:cx} {aD:bT} {call:bg} {yf:dx} {o:Oper} {aB:Nat} {v:TV} {c:Prop}
def IM(ι:kW)(S:aj)(tS:cx):Prop:=∀k l,tS[k]? =some (.cells l)->∃k' ds,ι k=some k'/\S[k']? =some (.cells ds)/\cq ι S l ds
theorem abM(hE:cq ι S te env)(hP:IM ι S tS){t:TypeId}{a:Operand}(ho:o.op=.load t a)(h:bI P ty tt te tS o=some (v,c)):∃d,ah P ty aD call yf (ir env) o S aB=some (d,S)/\RT ι S v d:=by
 simp only[bI,ho]at h;split at h;rename_i td id off h1 h2;split at h;rename_i l h3;simp only[af,az]at h;obtain⟨w,h4,rfl,-⟩:=h;obtain⟨d,k1,k2⟩:=bp hE h2;obtain⟨iG,ds,k3,k4,k5⟩:=hP _ _ h3;cases d<;>simp only[RT]at k2;obtain⟨k6,rfl⟩:=k2;rw[k3]at k6;cases k6;obtain⟨r,k7,k8⟩:=ry k5 h4;exact⟨r,by simp only[ah,ho,k1,kX,h1,k4,k7,ay],cN k8⟩;cases h;rename_i td e l i off h1 h2;simp only[af,az]at h;obtain⟨w,h4,rfl,-⟩:=h;obtain⟨d,k1,k2⟩:=bp hE h2;cases d<;>simp only[RT]at k2;obtain⟨k3,rfl,rfl,k4⟩:=k2;obtain⟨r,m1,m2,-⟩:=Ed k3 (aT k4);rename_i j j';have hg:l.getD j e.dft=l[j]:=by simp[aK,k4]
 rw[hg]at h4;obtain⟨r',m3,m4⟩:=ry (pO (ι:=ι) (S:=S) m2) h4;exact⟨r',by simp only[ah,ho,k1,kX,h1,m1,m3,ay],cN m4⟩;cases h
def Gz(t:TT):Nat->List (Nat×DV)->List t.den->Prop
 |_,[],[]=>True
 |i,(j,d)::qs,x::l=>(j=i/\CR t x d.strip.cells)/\Gz t (i+1) qs l
 |_,_,_=>False
theorem Me{v:TV}{d:DV}(hk:v.DY=true)(h:RT ι S v d):d.strip.cells=d.cells.map DV.aM:=by cases v<;>cases d<;>simp only[RT]at h<;>first|(cases hk;done)|rfl
theorem LI{v:TV}(hk:v.DY=true):v.known=true:=by cases v<;>first|rfl|cases hk
theorem EC{t:TT}:∀{ps:List (Nat×TV)}{qs:List (Nat×DV)}{i:Nat}{l:List t.den},D6 ι S ps qs->DW t i ps=some l->Gz t i qs l/\l.length=ps.length
 |[],[],i,l,_,h=>by cases h;exact⟨trivial,rfl⟩
 |(j,v)::ps,(j',d)::qs,i,l,hp,h=>by obtain⟨⟨rfl,hv⟩,hp⟩:=hp;simp only[DW]at h;split at h;rename_i hc;simp only[aC,dQ]at hc;obtain⟨rfl,hk⟩:=hc;split at h;rename_i x l' h1 h2;cases h;obtain⟨cs,m',e1,e2,e3⟩:=Gk h1 (uv (LI hk) hv);rw[aO e3,iR]at e1;obtain⟨k1,k2⟩:=EC hp h2;exact⟨⟨⟨rfl,by rw[Me hk hv,e1];exact e2⟩,k1⟩,by simp[k2]⟩;cases h;cases h
def jh(qs:List (Nat×DV)):cn:=qs.flatMap λq=>q.2.strip.cells
theorem xY{t:TT}{s:Nat}(hs:t.size=s):∀{qs:List (Nat×DV)}{i:Nat}{l:List t.den}{pre post:cn},Gz t i qs l->pre.length=i*s->post.length=qs.length*s->
  kY (λi=>some (i*s,s)) (pre++post) (qs.map λ(i,v)=>(i,v.strip))=some (pre++jh qs)
 |[],i,[],pre,post,_,hp,hq=>by have:post=[]:=eE (by simpa using hq);subst this;simp[kY,jh]
 |(j,d)::qs,i,x::l,pre,post,h,hp,hq=>by
  obtain⟨⟨rfl,hc⟩,h⟩:=h;have hl:d.strip.cells.length=s:=(oa hc).trans hs;have Rx:post.length=qs.length*s+s:=by rw[hq,cT,kL,Nat.one_mul]
  have oW:vY (pre++post) (j*s) d.strip.cells=some ((pre++d.strip.cells)++post.drop s):=by unfold vY;rw[if_pos (by rw[cL,hp,hl];omega),hl,<-hp,List.take_left' rfl,yW,hU ab];simp
  simp only[aZ,kY,hl,if_true,oW];rw[xY hs h (by rw[cL,hp,hl,kL,Nat.one_mul]) (by rw[List.length_drop,Rx];omega)];simp[jh]
theorem row_one{t:TT}{x:t.den}{cs:cn}(h:CR t x cs)(ha:t.agg=false):CR t x (cs.getD 0 bD).cells/\wQ t.agg (cs.getD 0 bD):=by
 cases t with
 |unit|pair=>cases ha
 |sl t=>simp only[CR]at h;obtain⟨rows,f,rfl,h⟩:=h;exact⟨by simp only[CR,List.getD_cons_zero,DV.cells];exact⟨rows,f,rfl,h⟩,by simp[wQ,TT.agg]⟩
 |_=>simp only[CR]at h;subst h;exact⟨by simp only[CR,List.getD_cons_zero,DV.cells],by simp[wQ,TT.agg]⟩
theorem BU{s:Nat}{agg:Bool}{c r:cn}{n:Nat}(hc:c.length=s):rowsOf s agg (c++r) (n+1)=(if agg then .agg c else(c++r).getD 0 bD)::rowsOf s agg r n:=by
 unfold rowsOf;rw[List.range_succ_eq_map,aZ,vA];congr 1;unfold rowOf;split
 grind
 grind
 refine List.map_congr_left λi _=>?_;simp only[Function.comp,rowOf,Nat.succ_eq_add_one,kL,Nat.one_mul];rw[yU (i*s) s,<-hc,yW,hU (Nat.le_add_right _ _),qE,gu,aK,aK,fT (Nat.le_add_right _ _),qE]
theorem ET{t:TT}{s:Nat}(hs:t.size=s)(h1:t.agg=true\/s=1):∀{qs:List (Nat×DV)}{i:Nat}{l:List t.den},Gz t i qs l->ei (CR t) t.agg l (rowsOf s t.agg (jh qs) l.length)
 |[],_,[],_=>by simp[rowsOf,ei]
 |(j,d)::qs,i,x::l,h=>by
  obtain⟨⟨rfl,hc⟩,h⟩:=h;have hl:d.strip.cells.length=s:=(oa hc).trans hs;have e:jh ((j,d)::qs)=d.strip.cells++jh qs:=by simp[jh]
  rw[e,cT,BU hl];refine⟨?_,ET hs h1 h⟩;cases ha:t.agg with
  |true=>exact⟨hc,by simp[wQ]⟩
  |false=>
   have:=row_one hc ha;rw[ha]at this;have h2:0<d.strip.cells.length:=by rw[hl];rcases h1 with h1|h1<;>first|(rw[ha]at h1;cases h1;done)|omega
   have e2:(d.strip.cells++jh qs).getD 0 bD=d.strip.cells.getD 0 bD:=by grind
   simp only[aJ,if_false];rw[e2];exact this
theorem xJ{t:TT}:∀{qs:List (Nat×DV)}{i:Nat}{l:List t.den},Gz t i qs l->(jh qs).all DV.bU=true
 |[],_,[],_=>rfl
 |(j,d)::qs,i,x::l,h=>by
  obtain⟨⟨rfl,hc⟩,h⟩:=h;have e:jh ((j,d)::qs)=d.strip.cells++jh qs:=by simp[jh]
  rw[e,lU,sB hc,xJ h];rfl
theorem A6:∀{ps:List (Nat×TV)}{qs:List (Nat×DV)},D6 ι S ps qs->qs.length=ps.length
 |[],[],_=>rfl
 |_::ps,_::qs,h=>by simp[A6 h.2]
theorem F4(hE:cq ι S te env){t:TypeId}{n:Nat}{ps:Array (Nat×Operand)}(ho:o.op=.buildSlice t n ps)(h:bI P ty tt te tS o=some (v,c)):∃d,ah P ty aD call yf (ir env) o S aB=some (d,S)/\RT ι S v d:=by
 simp only[bI,ho]at h;split at h;rename_i e s iU agg sz z0 l k h1 h2 h3;split at h;rename_i k0 sz' z h4;split at h;rename_i hc;simp only[aC,dQ,jK,bR]at hc;obtain⟨⟨⟨⟨⟨⟨⟨c1,c2⟩,c3⟩,c4⟩,c5⟩,c6⟩,c7⟩,c8⟩:=hc;have c8:ty.h o≠1:=by simpa using c8
 simp only[af,az]at h;obtain⟨w,h5,rfl,-⟩:=h;obtain⟨ds,k1,k2⟩:=rI hE h2;obtain⟨k3,k4⟩:=EC k2 h5;have hlen:ds.length=n:=by rw[A6 k2,c3]
 have adW:((List.replicate n z).flatten).length=ds.length*s:=by rw[hlen,List.length_flatten,List.map_replicate,c4,List.sum_replicate_nat]
 have hf:=xY (pre:=[]) (post:=(List.replicate n z).flatten) c5 k3 ae adW;rw[gu,gu]at hf;have hn:w.length=n:=by rw[k4,c3]
 have hr:=ET c5 (by rw[c6];exact c7) k3;rw[c6,hn]at hr;have c7':(agg||s==1)=true:=by simpa using c7
 refine⟨.sl (rowsOf s agg (jh ds) n) none ⟨true,some false⟩,?_,?_⟩;simp only[ah,ho,h1,k1,h4,lT c1,lT c2,gq,if_true,hf,xJ k3,c7',c8];simp only[RT,qb,and_self,and_true];rw[c6];exact hr;cases h;cases h;cases h
theorem P9(hE:cq ι S te env){a:Option Operand}{v:Option Value}(h:aab te a=some v):wC (ir env) a=some v:=by
 cases a with
 |none=>exact h
 |some x=>simp only[aab,af]at h;obtain⟨u,h1,rfl⟩:=h;simp only[wC,dF hE h1,ay]
theorem I4{u:Value}{d:DV}(h:RT ι S (.val u) d):d=.val u:=by cases d<;>simp only[RT]at h;rw[h]
theorem XA(hE:cq ι S te env){t:TypeId}{x:Operand}{lo hi mx:Option Operand}(ho:o.op=.slice t x lo hi mx)(h:VA P te t x lo hi mx=some (v,c))(hc:c):∃d,ah P ty aD call yf (ir env) o S aB=some (d,S)/\RT ι S v d:=by unfold VA at h;split at h;rename_i b l hh h1 h2 h3 h4;split at h;rename_i a z k1 k2;cases h;obtain⟨d,e1,e2⟩:=bp hE h1;rw[I4 e2]at e1;refine⟨.val (.string (b.extract a.toNat z.toNat)),?_,by simp only[RT]⟩;simp only[ah,ho,e1,P9 hE h3,P9 hE h4,Ox h2 k1 k2 hc,ay];cases h;cases h
theorem YR{ρ:Operand->Option DV}{x:Operand}{k:IntKind}{n:Int}(h:valOf ρ x=some (.int k n)):intOf ρ x=some n:=by
 simp only[valOf,kN]at h;obtain⟨d,h1,h2⟩:=h;have:d=.val (.int k n):=by
  cases d<;>simp only[wA]at h2;cases h2;rfl
  simp only[af]at h2;obtain⟨_,-,h3⟩:=h2;cases h3;all_goals cases h2
 simp only[intOf,h1,this]
theorem Sv(hE:cq ι S te env){t:TypeId}{x i:Operand}(ho:o.op=.index t x i)(h:NB P te t x i=some (v,c))(hc:c):∃d,ah P ty aD call yf (ir env) o S aB=some (d,S)/\RT ι S v d:=by unfold NB at h;split at h;rename_i b k n h1 h2 h3;cases h;obtain⟨d,e1,e2⟩:=bp hE h1;rw[I4 e2]at e1;have e3:=dF hE h3;refine⟨.val (.int .u8 ((b.data.toList.getD n.toNat 0).toNat:Nat)),?_,by simp only[RT]⟩;simp only[ah,ho,e1,e3,YR e3,Oy h2 hc,ay];cases h
theorem P0:∀{l:cj}{rows:cn},ei (CR (.int .u8)) (TT.int .u8).agg l rows->u8D rows=some l
 |[],[],_=>rfl
 |[],_::_,h=>h.elim
 |_::_,[],h=>h.elim
 |n::l,r::rows,h=>by
  obtain⟨⟨h1,h2⟩,h3⟩:=h;have h1:r.cells=[.val (.int .u8 n)]:=h1;have:r=.val (.int .u8 n):=by
   cases r<;>simp only[DV.cells]at h1<;>first|(cases h1;rfl)|(cases h1;done)|exact(h2 rfl _ rfl).elim|skip
   all_goals exact(h2 _ rfl).elim
  rw[this,u8D,P0 h3];rfl
theorem XB(hE:cq ι S te env){s d:TypeId}{x:Operand}(ho:o.op=.convert s d x)(h:strOf P te s d x=some (v,c)):∃r,ah P ty aD call yf (ir env) o S aB=some (r,S)/\RT ι S v r:=by
 unfold strOf at h;split at h;rename_i l ap e h1 h2 h3;split at h;rename_i h4;cases h;obtain⟨r,e1,e2⟩:=bp hE h1;cases r<;>simp only[RT]at e2;rename_i rows tok f;have hn:valOf (ir env) x=none:=by simp only[valOf,e1,bQ,wA]
 refine⟨.val (.string ⟨(l.map λ(n:Int)=>UInt8.ofNat n.toNat).toArray⟩),?_,by simp only[RT]⟩;simp only[ah,ho,hn,e1,aaa,h2,h3,h4,P0 e2.1,ay];cases h;cases h
theorem XK(hE:cq ι S te env){t:TypeId}{x:Operand}{lo hi mx:Option Operand}(ho:o.op=.slice t x lo hi mx)(h:bI P ty tt te tS o=some (v,c))(hc:c):∃d,ah P ty aD call yf (ir env) o S aB=some (d,S)/\RT ι S v d:=by
 have hb:∀{y:Option Operand}{b:Option Int},D1 te y=some b->(y=none/\b=none)\/∃z n,y=some z/\b=some n/\intOf (ir env) z=some n:=by
  intro y b hy;cases y with
  |none=>cases hy;exact .inl ⟨rfl,rfl⟩
  |some z=>simp only[D1,af]at hy;obtain⟨n,h1,rfl⟩:=hy;exact .inr ⟨z,n,rfl,rfl,qu hE h1⟩
 simp only[bI,ho]at h;split at h;rename_i e s iU agg sz z0 k l ap lo' RA mx' h1 h2 h3 h4 h5;split at h;rename_i hs;simp only[dQ]at hs;simp only[af]at h2;obtain⟨u,h6,h7⟩:=h2;obtain⟨d,k1,k2⟩:=bp hE h6;have k3:=cN (tt:=tt) (t:=t) k2;rw[h7]at k3;cases d<;>simp only[RT]at k3;rename_i rows tok f;obtain⟨k3,k4⟩:=k3;have hlen:=lX k3;have dX:(rows.all λr=>decide (r.cells.length=s))=true:=aU.2 λr hr=>lT ((jr k3 r hr).trans hs);simp only[aF]at h;rcases hb h3 with ⟨rfl,rfl⟩|⟨zl,nl,rfl,rfl,el⟩<;>rcases hb h4 with ⟨rfl,rfl⟩|⟨zh,nh,rfl,rfl,eh⟩<;>rcases hb h5 with ⟨rfl,rfl⟩|⟨zm,nm,rfl,rfl,em⟩<;>
  simp only[Wt,az]at h<;>obtain⟨rfl,rfl⟩:=h
 exact⟨_,by simp only[ah,ho,h1,k1,dX,gQ,gm,rY,if_true,fR,aJ,if_false,Option.isNone,Option.isSome,kM,lV,ay];rfl,by simp only[RT,qb,and_true,qy,gN];exact k3⟩
 grind
 have a1:0<=nh/\nh.toNat<=rows.length:=⟨hc.1,by rw[hlen];omega⟩;exact⟨_,by simp only[ah,ho,h1,k1,dX,gQ,eh,a1,gm,rY,if_true,fR,aJ,if_false,Option.isNone,Option.isSome,kM,lV,ay,and_self];rfl,by simp only[RT,qb,and_true,qy];exact rF _ k3⟩;obtain⟨b1,rfl,b2⟩:=hc;have a1:0<=nh/\nh.toNat<=rows.length:=⟨b1,by rw[hlen];omega⟩;exact⟨_,by simp only[ah,ho,h1,k1,dX,gQ,eh,em,a1,gm,rY,if_true,fR,aJ,if_false,Option.isNone,Option.isSome,qx,ay,and_self,ai];rfl,by simp only[RT,qb,and_true,qy,yY];exact rF _ k3⟩;have a1:0<=nl/\nl.toNat<=rows.length:=⟨hc.1,by rw[hlen];omega⟩;exact⟨_,by simp only[ah,ho,h1,k1,dX,gQ,el,a1,rY,if_true,fR,aJ,if_false,Option.isNone,Option.isSome,kM,lV,ay,and_self];rfl,by simp only[RT,qb,and_true,gN];exact vM _ k3⟩
 grind
 have a1:0<=nh/\nh.toNat<=rows.length:=⟨ab,by rw[hlen];omega⟩;have a2:0<=nl/\nl.toNat<=nh.toNat:=⟨hc.1,ab⟩;exact⟨_,by simp only[ah,ho,h1,k1,dX,gQ,eh,el,a1,a2,rY,if_true,fR,aJ,if_false,Option.isNone,Option.isSome,kM,lV,ay,and_self];rfl,by simp only[RT,qb,and_true];exact vM _ (rF _ k3)⟩;obtain⟨b0,b1,rfl,b2⟩:=hc;have a1:0<=nh/\nh.toNat<=rows.length:=⟨ab,by rw[hlen];omega⟩;have a2:0<=nl/\nl.toNat<=nh.toNat:=⟨b0,ab⟩;exact⟨_,by simp only[ah,ho,h1,k1,dX,gQ,eh,el,em,a1,a2,rY,if_true,fR,aJ,if_false,Option.isNone,Option.isSome,qx,ay,and_self,ai];rfl,by simp only[RT,qb,and_true,yY];exact vM _ (rF _ k3)⟩;cases h;exact XA hE ho h hc
theorem Lf(hE:cq ι S te env)(hP:IM ι S tS)(h:bI P ty tt te tS o=some (v,c))(hc:c):∃d,ah P ty aD call yf (ir env) o S aB=some (d,S)/\RT ι S v d:=by
 cases ho:o.op with
 |load t a=>exact abM hE hP ho h
 |buildSlice t n ps=>exact F4 hE ho h
 |slice t x lo hi mx=>exact XK hE ho h hc
 |move x|assign x=>simp only[bI,ho,af,az]at h;obtain⟨u,h1,rfl,-⟩:=h;obtain⟨d,k1,k2⟩:=bp hE h1;exact⟨d,by simp only[ah,ho,k1,ay],cN k2⟩
 |pick a b d=>simp only[bI,ho]at h;split at h;rename_i t h1;simp only[af,az]at h;obtain⟨u,h2,rfl,-⟩:=h;obtain⟨e,k1,k2⟩:=bp hE h1;cases e<;>simp only[RT]at k2;subst k2;obtain⟨e,k3,k4⟩:=Yj (λv h=>bp hE h) (λv h=>bp hE h) h2;exact⟨e,by simp only[ah,ho,k1,k3,ay],k4⟩;cases h
 |build t ps=>simp only[bI,ho]at h;split at h;rename_i fs sz z l h1 h2;simp only[af,az]at h;obtain⟨cs,h3,rfl,-⟩:=h;obtain⟨ds,k1,k2⟩:=rI hE h2;obtain⟨r,k3,k4⟩:=Ey k2 (vh _) h3;exact⟨.agg r,by simp only[ah,ho,h1,k1,k3,ay],by simp only[RT];exact k4⟩;rename_i n s agg sz z l h1 h2;simp only[af,az]at h;obtain⟨cs,h3,rfl,-⟩:=h;obtain⟨ds,k1,k2⟩:=rI hE h2;obtain⟨r,k3,k4⟩:=Ey k2 (vh _) h3;exact⟨.agg r,by simp only[ah,ho,h1,k1,k3,ay],by simp only[RT];exact k4⟩;cases h
 |nilCheck x=>simp only[bI,ho]at h;split at h;rename_i id off h1;cases h;obtain⟨d,k1,k2⟩:=bp hE h1;cases d<;>simp only[RT]at k2;exact⟨_,by simp only[ah,ho,k1];rfl,by simp only[RT];exact k2⟩;cases h
 |binOp op t x y u=>simp only[bI,ho]at h;split at h;rename_i a b h1 h2;simp only[af,az]at h;obtain⟨w,h3,rfl,-⟩:=h;obtain⟨d,k1,k2⟩:=vc (ι:=ι) (S:=S) h3;exact⟨d,by simp only[ah,ho,dF hE h1,dF hE h2,k1,ay],k2⟩;cases h
 |unOp op t x=>simp only[bI,ho]at h;split at h;rename_i a h1;simp only[af,az]at h;obtain⟨w,h3,rfl,-⟩:=h;obtain⟨d,k1,k2⟩:=vc (ι:=ι) (S:=S) h3;exact⟨d,by simp only[ah,ho,dF hE h1,k1,ay],k2⟩;cases h
 |convert s t x=>simp only[bI,ho]at h;split at h;rename_i a h1;simp only[af,az]at h;obtain⟨w,h3,rfl,-⟩:=h;obtain⟨d,k1,k2⟩:=vc (ι:=ι) (S:=S) h3;exact⟨d,by simp only[ah,ho,dF hE h1,k1,ay],k2⟩;exact XB hE ho h
 |makeFunc f fs cs=>
  cases f with
  |func f=>simp only[bI,ho]at h;split at h;rename_i a b h1 h2;cases h;obtain⟨d,k1,k2⟩:=sA hE h1;obtain⟨e,k3,k4⟩:=sA hE h2;exact⟨_,by simp only[ah,ho,k1,k3];rfl,by simp only[RT];exact⟨trivial,k2,k4⟩⟩;cases h
  |_=>simp only[bI,ho]at h;cases h
 |fieldAddr t x f=>simp only[bI,ho]at h;split at h;rename_i fs sz z id off h1 h2;split at h;rename_i oo s ag h3;split at h;rename_i h4;cases h;obtain⟨d,k1,k2⟩:=bp hE h2;cases d<;>simp only[RT]at k2;obtain⟨k3,rfl⟩:=k2;exact⟨_,by simp only[ah,ho,h1,k1,h3,h4,if_true];rfl,by simp only[RT];exact⟨k3,trivial⟩⟩;cases h;cases h;rename_i fs sz z k l i off h1 h2;split at h;rename_i oo s ag h3;split at h;rename_i h4;cases h;obtain⟨d,k1,k2⟩:=bp hE h2;cases d<;>simp only[RT]at k2;obtain⟨k3,rfl,rfl,k4⟩:=k2;exact⟨_,by simp only[ah,ho,h1,k1,h3,h4,if_true];rfl,by simp only[RT];exact⟨k3,trivial,trivial,k4⟩⟩;cases h;cases h;cases h
 |field t x f=>simp only[bI,ho]at h;split at h;rename_i fs sz z l h1 h2;split at h;rename_i off s ag h3;simp only[af,az]at h;obtain⟨w,h4,rfl,-⟩:=h;obtain⟨d,k1,k2⟩:=bp hE h2;cases d<;>simp only[RT]at k2;obtain⟨r,k3,k4⟩:=ry k2 h4;exact⟨r,by simp only[ah,ho,h1,k1,h3,k3,ay],k4⟩;cases h;cases h
 |indexAddr t x i=>
  simp only[bI,ho]at h;split at h;rename_i e s iU ag sz z k l ap n h1 h2 h3;split at h;rename_i hs;simp only[dQ]at hs;cases h;simp only[af]at h2;obtain⟨u,h6,h7⟩:=h2;obtain⟨d,k1,k2⟩:=bp hE h6;have k3:=cN (tt:=tt) (t:=t) k2;rw[h7]at k3;cases d<;>simp only[RT]at k3;obtain⟨k3,-⟩:=k3;have hlt:n.toNat<l.length:=ab
  obtain⟨r,m1,m2,-⟩:=Ed k3 (aT hlt);exact⟨_,by simp only[ah,ho,h1,k1,qu hE h3,hc.1,if_true,m1,(oa m2).trans hs];rfl,by simp only[RT];exact⟨k3,trivial,trivial,hlt⟩⟩;cases h;rename_i k s ag sz z id off n h1 h2 h3;split at h;rename_i h4;cases h;simp only[af]at h2;obtain⟨u,h6,h7⟩:=h2;obtain⟨d,k1,k2⟩:=bp hE h6;have k3:=cN (tt:=tt) (t:=t) k2;rw[h7]at k3;cases d<;>simp only[RT]at k3;obtain⟨k5,rfl⟩:=k3;exact⟨_,by simp only[ah,ho,h1,k1,qu hE h3,h4,and_self,if_true];rfl,by simp only[RT];exact⟨k5,trivial⟩⟩;cases h;rename_i k s ag sz z e l j off n h1 h2 h3;split at h;rename_i h4;cases h;simp only[af]at h2;obtain⟨u,h6,h7⟩:=h2;obtain⟨d,k1,k2⟩:=bp hE h6;have k3:=cN (tt:=tt) (t:=t) k2;rw[h7]at k3;cases d<;>simp only[RT]at k3;obtain⟨k5,rfl,rfl,k6⟩:=k3;exact⟨_,by simp only[ah,ho,h1,k1,qu hE h3,h4,and_self,if_true];rfl,by simp only[RT];exact⟨k5,trivial,trivial,k6⟩⟩;cases h;cases h
 |index t x i=>simp only[bI,ho]at h;split at h;rename_i k s ag sz z l n h1 h2 h3;split at h;rename_i h5;simp only[af,az]at h;obtain⟨w,h4,rfl,-⟩:=h;obtain⟨d,k1,k2⟩:=bp hE h2;cases d<;>simp only[RT]at k2;obtain⟨r,k3,k4⟩:=ry k2 h4;exact⟨r,by simp only[ah,ho,h1,k1,qu hE h3,h5,and_self,if_true,k3,ay],k4⟩;cases h;exact Sv hE ho h hc
 |extract t i=>simp only[bI,ho]at h;split at h;rename_i l h1;simp only[af,az]at h;obtain⟨w,h4,rfl,-⟩:=h;obtain⟨d,k1,k2⟩:=bp hE h1;cases d<;>simp only[RT]at k2;obtain⟨r,k3,k4⟩:=vk k2 h4;exact⟨r,by simp only[ah,ho,k1,k3,ay],cN k4⟩;cases h
 |call cl=>
  obtain⟨callee,args,argTypes⟩:=cl;cases callee with
  |builtin b=>simp only[bI,ho]at h;split at h;rename_i x t ha ht;split at h;rename_i e s iU ag sz z k l ap h1 h2;cases h;simp only[af]at h2;obtain⟨u,h6,h7⟩:=h2;obtain⟨d,k1,k2⟩:=bp hE h6;have k3:=cN (tt:=tt) (t:=t) k2;rw[h7]at k3;cases d<;>simp only[RT]at k3;exact⟨_,by simp only[ah,ho,ha,ht,h1,k1];rfl,by simp only[RT];rw[lX k3.1]⟩;rename_i n s ag sz z h1;cases h;exact⟨_,by simp only[ah,ho,ha,ht,h1];rfl,by simp only[RT]⟩;rename_i w h2 hn2;simp only[af,az]at h h2;obtain⟨r,h4,rfl,-⟩:=h;obtain⟨u,h6,h7⟩:=h2;obtain⟨d,k1,k2⟩:=bp hE h6;have k3:=cN (tt:=tt) (t:=t) k2;rw[h7]at k3;cases d<;>simp only[RT]at k3;subst k3;obtain⟨d,k5,k6⟩:=vc (ι:=ι) (S:=S) h4;exact⟨d,by simp only[ah,ho,ha,ht,k1,k5,ay],k6⟩;cases h;split at h;rename_i vs h1;simp only[af,az]at h;obtain⟨r,h4,rfl,-⟩:=h;simp only[kN]at h1;obtain⟨us,h5,h6⟩:=h1;obtain⟨ds,k1,k2⟩:=sA hE h5;obtain⟨d,k5,k6⟩:=vc (ι:=ι) (S:=S) h4;exact⟨d,by simp only[ah,ho,k1,bQ,xB k2 h6,k5,ay],k6⟩;cases h;split at h;rename_i vs h1;simp only[af,az]at h;obtain⟨r,h4,rfl,-⟩:=h;simp only[kN]at h1;obtain⟨us,h5,h6⟩:=h1;obtain⟨ds,k1,k2⟩:=sA hE h5;obtain⟨d,k5,k6⟩:=vc (ι:=ι) (S:=S) h4;exact⟨d,by simp only[ah,ho,k1,bQ,xB k2 h6,k5,ay],k6⟩;cases h;cases h
  |_=>simp only[bI,ho]at h;cases h
 |_=>simp only[bI,ho]at h;cases h
end Go.Tv
