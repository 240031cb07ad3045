import Derived.Test.YtadeehilamokkaaGreatDoorPk01
namespace Go.Tv
open Go Go.Di
def TV.cells:TV->cn
 |.agg l=>l
 |v=>[v]
def TV.known:TV->Bool
 |.unk=>false
 |_=>true
def TV.Dl:TV->Bool
 |.unk|.tup _=>false
 |_=>true
def sH:DV->TV
 |.val v=>.val v
 |.sl [] none ⟨true,some true⟩=>.jo
 |_=>.unk
def YY:DV->TV
 |.agg l=>.agg (l.map sH)
 |.fn f [] []=>.fn f [] []
 |d=>sH d
inductive TB where
 |none
 |cells (l:cn)
 |own (e s:Nat)
 |map (kt:TT) (l:List kt.den)
 |rows (t:TT) (e:Nat) (l:List t.den) (z:Bool)
 |loop
abbrev dj:=List TB
abbrev cp:=List TB
instance:Inhabited TB:=⟨.none⟩
section
variable (P:Program) (ty:fo) (tt:TypeId->cy)
def fe(te:cn):Operand->Option TV
 |.tmp t=>some (te.getD t .unk)
 |.const v=>(A7 v).map YY
 |.func f=>some (.fn f [] [])
 |.global _=>none
def kP(te:cn):List Operand->Option cn
 |[]=>some []
 |x::l=>match fe te x,kP te l with
  |some d,some r=>some (d::r)
  |_,_=>none
def zQ(te:cn):List (Nat×Operand)->Option (List (Nat×TV))
 |[]=>some []
 |(i,x)::l=>match fe te x,zQ te l with
  |some d,some r=>some ((i,d)::r)
  |_,_=>none
def ia:cn->Option (List Value)
 |[]=>some []
 |.val v::l=>(ia l).map (v::·)
 |_=>none
def gP:TV->Option Value
 |.val v=>some v
 |.agg l=>(ia l).map λr=>.agg r.toArray
 |_=>none
def xZ:cn->Option (List Value)
 |[]=>some []
 |d::l=>match gP d,xZ l with
  |some v,some r=>some (v::r)
  |_,_=>none
def Hw(te:cn)(x:Operand):Option Int:=
 match fe te x with
 |some (.val (.int _ n))=>some n
 |_=>none
def fA(t:TypeId)(v:TV):TV:=
 match v with
 |.jo=>match tt t with
  |some (.sl e)=>.sl e [] .full
  |_=>.jo
 |v=>v
def acP(l:cn)(off n:Nat):Option cn:=if off+n<=l.length then some ((l.drop off).take n)else none
def Mk(l:cn)(off:Nat)(cs:cn):Option cn:=if off+cs.length<=l.length then some (l.take off++cs++l.drop (off+cs.length))else none
def vG(agg:Bool)(size:Nat)(l:cn)(off:Nat):Option TV:=if agg then(acP l off size).map .agg else l[off]?
def JM(place:Nat->Option (Nat×Nat))(cs:cn):List (Nat×TV)->Option cn
 |[]=>some cs
 |(i,v)::r=>match place i with
  |none=>none
  |some (off,size)=>if v.known&&v.cells.length==size then match Mk cs off v.cells with
    |some iq=>JM place iq r
    |none=>none
   else none
def wz:Option DV->Option TV
 |some (.val v)=>some (.val v)
 |_=>none
def Dk(t:TT)(i:Nat):List (Nat×TV)->Option (List t.den)
 |[]=>some []
 |(j,v)::r=>if j==i&&v.Dl then match t.of v.cells,Dk t (i+1) r with
   |some (x,[]),some l=>some (x::l)
   |_,_=>none
  else none
def Ut(t:Bool):Option TV->Option TV->Option TV
 |some (.val (.bool x)),some (.val (.bool y))=>some (.val (.bool (bif t then x else y)))
 |some (.val (.int k x)),some (.val (.int k' y))=>if k'=k then some (.val (.int k (bif t then x else y)))else none
 |a,b=>match t with
  |true=>a
  |false=>b
def Dp(te:cn):Option Operand->Option (Option Int)
 |none=>some none
 |some x=>(Hw te x).map some
def aix(o:Option Int)(Ht:Nat):Prop:=
 match o with
 |none=>True
 |some n=>0<=n/\n<=(Ht:Int)
def U7(t:TT)(l:List t.den)(lo hi mx:Option Int):TV×Prop:=
 match mx with
 |none=>match hi with
  |none=>match lo with
   |none=>(.sl t l .no,True)
   |some a=>(.sl t (l.drop a.toNat) .no,0<=a/\a<=(l.length:Int))
  |some h=>match lo with
   |none=>(.sl t (l.take h.toNat) .no,0<=h/\h<=(l.length:Int))
   |some a=>(.sl t ((l.take h.toNat).drop a.toNat) .no,0<=a/\a<=h/\h<=(l.length:Int))
 |some m=>match hi with
  |none=>(.unk,False)
  |some h=>match lo with
   |none=>(.sl t (l.take h.toNat) .full,0<=h/\h=m/\h<=(l.length:Int))
   |some a=>(.sl t ((l.take h.toNat).drop a.toNat) .full,0<=a/\a<=h/\h=m/\h<=(l.length:Int))
def bJ(te:cn)(tS:cp)(o:Oper):Option (TV×Prop):=
 match o.op with
 |.move x|.assign x=>(fe te x).map λv=>(fA tt o.type v,True)
 |.pick c a b=>match fe te c with
  |some (.val (.bool t))=>(Ut t (fe te a) (fe te b)).map (·,True)
  |_=>none
 |.build t ps=>match ty t,zQ te ps.toList with
  |some ⟨.struct fs,_,some z⟩,some l=>(JM (λi=>(fs[i]?).map λf=>(f.1,f.2.1)) (z.map sH) l).map λcs=>(.agg cs,True)
  |some ⟨.array _ s _,_,some z⟩,some l=>(JM (λi=>some (i*s,s)) (z.map sH) l).map λcs=>(.agg cs,True)
  |_,_=>none
 |.buildSlice t n ps=>match ty t,zQ te ps.toList,tt t with
  |some ⟨.slice e s _ agg,_,_⟩,some l,some (.sl k)=>match ty e with
   |some ⟨_,_,some z⟩=>if decide (0<s)&&decide (n*s<=16777216)&&l.length==n&&z.length==s&&k.size==s&&k.agg==agg&&(agg||s==1)&&ty.h o !=1 then
     (Dk k 0 l).map λl=>(.sl k l .full,True)
    else none
   |_=>none
  |_,_,_=>none
 |.load t a=>match ty t,fe te a with
  |some d,some (.ptr id off)=>match tS[id]? with
   |some (.cells l)=>(vG d.k.isAgg d.size l off).map λv=>(fA tt t v,True)
   |_=>none
  |some d,some (.eU e l i off)=>(vG d.k.isAgg d.size (e.cells (l.getD i e.dft)) off).map λv=>(fA tt t v,True)
  |_,_=>none
 |.nilCheck x=>match fe te x with
  |some (.ptr id off)=>some (.ptr id off,True)
  |_=>none
 |.binOp op t x y _=>match(fe te x).bind gP,(fe te y).bind gP with
  |some a,some b=>(wz (gM P (do eqGuard op t x y a b;binOp op t a b))).map (·,True)
  |_,_=>none
 |.unOp op _ x=>match(fe te x).bind gP with
  |some a=>(wz (gM P (Op.unary op a))).map (·,True)
  |none=>none
 |.convert s d x=>match(fe te x).bind gP with
  |some a=>(wz (gM P (Go.convert s d a))).map (·,True)
  |none=>none
 |.makeFunc (.func f) fs cs=>match kP te fs.toList,kP te cs.toList with
  |some a,some b=>some (.fn f a b,True)
  |_,_=>none
 |.slice t x lo hi mx=>match ty t,(fe te x).map (fA tt t),Dp te lo,Dp te hi,Dp te mx with
  |some ⟨.slice _ s _ _,_,_⟩,some (.sl k l _),some lo,some hi,some mx=>if k.size==s then some (U7 k l lo hi mx)else none
  |_,_,_,_,_=>none
 |.fieldAddr t x f=>match ty t,fe te x with
  |some ⟨.struct fs,_,_⟩,some (.ptr id off)=>match fs[f]? with
   |some (o,s,_)=>if 0<s then some (.ptr id (off+o),True)else none
   |none=>none
  |some ⟨.struct fs,_,_⟩,some (.eU k l i off)=>match fs[f]? with
   |some (o,s,_)=>if 0<s then some (.eU k l i (off+o),True)else none
   |none=>none
  |_,_=>none
 |.field t x f=>match ty t,fe te x with
  |some ⟨.struct fs,_,_⟩,some (.agg l)=>match fs[f]? with
   |some (off,s,agg)=>(vG agg s l off).map (·,True)
   |none=>none
  |_,_=>none
 |.indexAddr t x i=>match ty t,(fe te x).map (fA tt t),Hw te i with
  |some ⟨.slice _ s _ _,_,_⟩,some (.sl k l _),some n=>if k.size==s then some (.eU k l n.toNat 0,0<=n/\n<(l.length:Int))else none
  |some ⟨.array k s _,_,_⟩,some (.ptr id off),some n=>if 0<=n/\n.toNat<k then some (.ptr id (off+n.toNat*s),True)else none
  |some ⟨.array k s _,_,_⟩,some (.eU e l j off),some n=>if 0<=n/\n.toNat<k then some (.eU e l j (off+n.toNat*s),True)else none
  |_,_,_=>none
 |.index t x i=>match ty t,fe te x,Hw te i with
  |some ⟨.array k s agg,_,_⟩,some (.agg l),some n=>if 0<=n/\n.toNat<k then(vG agg s l (n.toNat*s)).map (·,True)else none
  |_,_,_=>none
 |.extract t i=>match fe te t with
  |some (.tup l)=>(l[i]?).map λv=>(fA tt o.type v,True)
  |_=>none
 |.call {callee:=.builtin b,args,argTypes}=>match b,args.toList,argTypes.toList with
  |.len,[x],[t]=>match ty t,(fe te x).map (fA tt t)with
   |some ⟨.slice _ _ _ _,_,_⟩,some (.sl _ l _)=>some (.val (.int .i64 (l.length:Nat)),True)
   |some ⟨.array n _ _,_,_⟩,_=>some (.val (.int .i64 n),True)
   |_,some (.val v)=>(wz (gM P (Builtin.len_ #[t] o.type #[v]))).map (·,True)
   |_,_=>none
  |.min,xs,_=>match(kP te xs).bind xZ with
   |some vs=>(wz (gM P (Builtin.min_ argTypes o.type vs.toArray))).map (·,True)
   |none=>none
  |.max,xs,_=>match(kP te xs).bind xZ with
   |some vs=>(wz (gM P (Builtin.max_ argTypes o.type vs.toArray))).map (·,True)
   |none=>none
  |_,_,_=>none
 |_=>none
end
section
variable {P:Program} {ty:fo} {tt:TypeId->cy} {ι:kB} {S:aj} {te:cn} {env:cj} {tS:cp}
theorem tQ{v:TV}{d:DV}(hk:v.known=true)(h:RT ι S v d):cz ι S v.cells d.cells:=by cases v<;>cases d<;>simp only[RT]at h<;>first|(cases hk;done)|exact h|(refine j4 ?_;simp only[RT];exact h)
theorem Va(d:DV):RT ι S (sH d) d:=by unfold sH;split<;>simp[RT]
theorem uH:∀l:cj,cz ι S (l.map sH) l
 |[]=>bH
 |d::l=>aO (Va d) (uH l)
theorem afa(d:DV):RT ι S (YY d) d:=by
 unfold YY;split;simp only[RT];exact uH _
 simp only[RT,cz,and_true];exact Va _
theorem bt(h:cz ι S te env){x:Operand}{v:TV}(hx:fe te x=some v):∃d,iN env x=some d/\RT ι S v d:=by
 cases x with
 |tmp t=>cases hx;exact⟨_,rfl,Dy h t⟩
 |const u=>simp only[fe,af]at hx;obtain⟨d,h1,rfl⟩:=hx;exact⟨d,h1,afa d⟩
 |func f=>cases hx;exact⟨_,rfl,by simp only[RT,cz,and_true]⟩
 |global g=>cases hx
theorem rI(h:cz ι S te env):∀{xs:List Operand}{vs:cn},kP te xs=some vs->∃ds,evs (iN env) xs=some ds/\cz ι S vs ds
 |[],_,hx=>by cases hx;exact⟨[],rfl,bH⟩
 |x::l,vs,hx=>by simp only[kP]at hx;split at hx;rename_i d r h1 h2;cases hx;obtain⟨d',k1,k2⟩:=bt h h1;obtain⟨ds,k3,k4⟩:=rI h h2;exact⟨d'::ds,by simp only[evs,k1,k3],aO k2 k4⟩;cases hx
def Dt(ι:kB)(S:aj):List (Nat×TV)->List (Nat×DV)->Prop
 |[],[]=>True
 |(i,v)::l,(j,d)::m=>(j=i/\RT ι S v d)/\Dt ι S l m
 |_,_=>False
theorem qQ(h:cz ι S te env):∀{xs:List (Nat×Operand)}{vs:List (Nat×TV)},zQ te xs=some vs->∃ds,jR (iN env) xs=some ds/\Dt ι S vs ds
 |[],_,hx=>by cases hx;exact⟨[],rfl,trivial⟩
 |(i,x)::l,vs,hx=>by simp only[zQ]at hx;split at hx;rename_i d r h1 h2;cases hx;obtain⟨d',k1,k2⟩:=bt h h1;obtain⟨ds,k3,k4⟩:=qQ h h2;exact⟨(i,d')::ds,by simp only[jR,k1,k3],⟨rfl,k2⟩,k4⟩;cases hx
theorem Bm:∀{l:cn}{m:cj}{vs:List Value},cz ι S l m->ia l=some vs->rE m=some vs
 |[],m,vs,h,hx=>by rw[aN h];exact hx
 |a::l,m,vs,h,hx=>by
  obtain⟨d,m',rfl,h1,h2⟩:=ax h;unfold ia at hx;split at hx
  grind
  rename_i v l' e;cases e;simp only[af]at hx;obtain⟨r,h3,rfl⟩:=hx;cases d<;>simp only[RT]at h1;subst h1;simp only[rE,Bm h2 h3,az];cases hx
theorem F5{v:TV}{d:DV}{u:Value}(h:RT ι S v d)(hx:gP v=some u):AY d=some u:=by unfold gP at hx;split at hx;cases hx;cases d<;>simp only[RT]at h;subst h;rfl;simp only[af]at hx;obtain⟨r,h1,rfl⟩:=hx;cases d<;>simp only[RT]at h;simp only[AY,Bm h h1,az];cases hx
theorem wL:∀{l:cn}{m:cj}{vs:List Value},cz ι S l m->xZ l=some vs->tI m=some vs
 |[],m,vs,h,hx=>by rw[aN h];exact hx
 |a::l,m,vs,h,hx=>by obtain⟨d,m',rfl,h1,h2⟩:=ax h;simp only[xZ]at hx;split at hx;rename_i v r e1 e2;cases hx;simp only[tI,F5 h1 e1,wL h2 e2];cases hx
theorem dW(h:cz ι S te env){x:Operand}{u:Value}(hx:(fe te x).bind gP=some u):valOf (iN env) x=some u:=by
 cases h1:fe te x with
 |none=>rw[h1]at hx;cases hx
 |some v=>rw[h1]at hx;obtain⟨d,h2,h3⟩:=bt h h1;simp only[valOf,h2,cF];exact F5 h3 hx
theorem pP(h:cz ι S te env){x:Operand}{n:Int}(hx:Hw te x=some n):intOf (iN env) x=some n:=by unfold Hw at hx;split at hx;rename_i k m h1;cases hx;obtain⟨d,h2,h3⟩:=bt h h1;cases d<;>simp only[RT]at h3;subst h3;simp only[intOf,h2];cases hx
theorem cK{t:TypeId}{v:TV}{d:DV}(h:RT ι S v d):RT ι S (fA tt t v) d:=by unfold fA;split;split;cases d<;>simp only[RT]at h;obtain⟨rfl,rfl,rfl⟩:=h;simp only[RT,dZ,pq,and_self];exact h;exact h
theorem aaL{l:cn}{m:cj}(h:cz ι S l m){off n:Nat}{r:cn}(hx:acP l off n=some r):∃r',Uh m off n=some r'/\cz ι S r r':=by unfold acP at hx;split at hx;cases hx;rename_i hle;exact⟨_,if_pos (by rw[gR h];exact hle),Dx _ (Dz _ h)⟩;cases hx
theorem Ip{l:cn}{m:cj}(h:cz ι S l m){cs:cn}{ds:cj}(hc:cz ι S cs ds){off:Nat}{r:cn}(hx:Mk l off cs=some r):∃r',vu m off ds=some r'/\cz ι S r r':=by unfold Mk at hx;split at hx;cases hx;rename_i hle;refine⟨_,if_pos (by rw[gR h,gR hc];exact hle),eH (eH (Dx _ h) hc) ?_⟩;rw[gR hc];exact Dz _ h;cases hx
theorem qH{l:cn}{m:cj}(h:cz ι S l m){agg:Bool}{size off:Nat}{r:TV}(hx:vG agg size l off=some r):∃r',oF agg size m off=some r'/\RT ι S r r':=by unfold vG at hx;split at hx;rename_i ha;simp only[af]at hx;obtain⟨r1,h1,rfl⟩:=hx;obtain⟨r',h2,h3⟩:=aaL h h1;exact⟨.agg r',by simp only[oF,ha,if_true,h2,az],by simp only[RT];exact h3⟩;rename_i ha;obtain⟨d,h1,h2⟩:=uI h hx;exact⟨d,by simp only[oF,ha,h1];rfl,h2⟩
theorem D5{place:Nat->Option (Nat×Nat)}:∀{ps:List (Nat×TV)}{qs:List (Nat×DV)}{l:cn}{m:cj}{r:cn},Dt ι S ps qs->cz ι S l m->JM place l ps=some r->∃r',kE place m qs=some r'/\cz ι S r r'
 |[],[],l,m,r,_,h,hx=>by cases hx;exact⟨m,rfl,h⟩
 |(i,v)::ps,(j,d)::qs,l,m,r,hp,h,hx=>by obtain⟨⟨rfl,hv⟩,hp⟩:=hp;simp only[JM]at hx;split at hx;cases hx;rename_i off size BN;split at hx;rename_i hc;simp only[aC,dL]at hc;have nK:=tQ hc.1 hv;split at hx;rename_i iq oy;obtain⟨m',h1,h2⟩:=Ip h nK oy;obtain⟨r',h3,h4⟩:=D5 hp h2 hx;refine⟨r',?_,h4⟩;simp only[kE,BN,gR nK,hc.2,if_true,h1,h3];cases hx;cases hx
theorem uF{o:Option DV}{v:TV}(h:wz o=some v):∃d,o=some d/\RT ι S v d:=by
 unfold wz at h;split at h;cases h;exact⟨_,rfl,by simp only[RT]⟩
 cases h
theorem WX{t:Bool}{a b:Option TV}{v:TV}{a' b':Option DV}(ha:∀v,a=some v->∃d,a'=some d/\RT ι S v d)(hb:∀v,b=some v->∃d,b'=some d/\RT ι S v d)(h:Ut t a b=some v):∃d,(if t then a' else b')=some d/\RT ι S v d:=by
 unfold Ut at h;split at h
 grind
 grind
 grind
end
end Go.Tv
namespace Go.Tv
open Go Go.Di
variable {P:Program} {ty:fo} {tt:TypeId->cy} {ι:kB} {S:aj} {te:cn} {env:cj} {tS:cp} {aD:bR} {call:aY} {yf:di} {o:Oper} {aB:Nat} {v:TV} {c:Prop}
def H7(ι:kB)(S:aj)(tS:cp):Prop:=∀k l,tS[k]? =some (.cells l)->∃k' ds,ι k=some k'/\S[k']? =some (.cells ds)/\cz ι S l ds
theorem aan(hE:cz ι S te env)(hP:H7 ι S tS){t:TypeId}{a:Operand}(ho:o.op=.load t a)(h:bJ P ty tt te tS o=some (v,c)):∃d,ah P ty aD call yf (iN env) o S aB=some (d,S)/\RT ι S v d:=by
 simp only[bJ,ho]at h;split at h;rename_i td id off h1 h2;split at h;rename_i l h3;simp only[af,ay]at h;obtain⟨w,h4,rfl,-⟩:=h;obtain⟨d,k1,k2⟩:=bt hE h2;obtain⟨iz,ds,k3,k4,k5⟩:=hP _ _ h3;cases d<;>simp only[RT]at k2;obtain⟨k6,rfl⟩:=k2;rw[k3]at k6;cases k6;obtain⟨r,k7,k8⟩:=qH k5 h4;exact⟨r,by simp only[ah,ho,k1,kC,h1,k4,k7,az],cK k8⟩;cases h;rename_i td e l i off h1 h2;simp only[af,ay]at h;obtain⟨w,h4,rfl,-⟩:=h;obtain⟨d,k1,k2⟩:=bt hE h2;cases d<;>simp only[RT]at k2;obtain⟨k3,rfl,rfl,k4⟩:=k2;obtain⟨r,m1,m2,-⟩:=DC k3 (bn k4);rename_i j j';have hg:l.getD j e.dft=l[j]:=by simp[aP,k4]
 rw[hg]at h4;obtain⟨r',m3,m4⟩:=qH (oT (ι:=ι) (S:=S) m2) h4;exact⟨r',by simp only[ah,ho,k1,kC,h1,m1,m3,az],cK m4⟩;cases h
def F1(t:TT):Nat->List (Nat×DV)->List t.den->Prop
 |_,[],[]=>True
 |i,(j,d)::qs,x::l=>(j=i/\CR t x d.strip.cells)/\F1 t (i+1) qs l
 |_,_,_=>False
theorem Ll{v:TV}{d:DV}(hk:v.Dl=true)(h:RT ι S v d):d.strip.cells=d.cells.map DV.aL:=by cases v<;>cases d<;>simp only[RT]at h<;>first|(cases hk;done)|rfl
theorem KX{v:TV}(hk:v.Dl=true):v.known=true:=by cases v<;>first|rfl|cases hk
theorem D8{t:TT}:∀{ps:List (Nat×TV)}{qs:List (Nat×DV)}{i:Nat}{l:List t.den},Dt ι S ps qs->Dk t i ps=some l->F1 t i qs l/\l.length=ps.length
 |[],[],i,l,_,h=>by cases h;exact⟨trivial,rfl⟩
 |(j,v)::ps,(j',d)::qs,i,l,hp,h=>by obtain⟨⟨rfl,hv⟩,hp⟩:=hp;simp only[Dk]at h;split at h;rename_i hc;simp only[aC,dL]at hc;obtain⟨rfl,hk⟩:=hc;split at h;rename_i x l' h1 h2;cases h;obtain⟨cs,m',e1,e2,e3⟩:=FP h1 (tQ (KX hk) hv);rw[aN e3,iJ]at e1;obtain⟨k1,k2⟩:=D8 hp h2;exact⟨⟨⟨rfl,by rw[Ll hk hv,e1];exact e2⟩,k1⟩,by simp[k2]⟩;cases h;cases h
def iW(qs:List (Nat×DV)):cj:=qs.flatMap λq=>q.2.strip.cells
theorem xm{t:TT}{s:Nat}(hs:t.size=s):∀{qs:List (Nat×DV)}{i:Nat}{l:List t.den}{pre post:cj},F1 t i qs l->pre.length=i*s->post.length=qs.length*s->
  kE (λi=>some (i*s,s)) (pre++post) (qs.map λ(i,v)=>(i,v.strip))=some (pre++iW qs)
 |[],i,[],pre,post,_,hp,hq=>by have:post=[]:=eP (by simpa using hq);subst this;simp[kE,iW]
 |(j,d)::qs,i,x::l,pre,post,h,hp,hq=>by
  obtain⟨⟨rfl,hc⟩,h⟩:=h;have hl:d.strip.cells.length=s:=(nB hc).trans hs;have Mb:post.length=qs.length*s+s:=by rw[hq,dA,j7,Nat.one_mul]
  have oy:vu (pre++post) (j*s) d.strip.cells=some ((pre++d.strip.cells)++post.drop s):=by unfold vu;rw[if_pos (by rw[dM,hp,hl];omega),hl,<-hp,List.take_left' rfl,ym,jy U];simp
  simp only[bg,kE,hl,if_true,oy];rw[xm hs h (by rw[dM,hp,hl,j7,Nat.one_mul]) (by rw[List.length_drop,Mb];omega)];simp[iW]
theorem row_one{t:TT}{x:t.den}{cs:cj}(h:CR t x cs)(ha:t.agg=false):CR t x (cs.getD 0 bD).cells/\vR t.agg (cs.getD 0 bD):=by
 cases t with
 |unit|pair=>cases ha
 |sl t=>simp only[CR]at h;obtain⟨rows,f,rfl,h⟩:=h;exact⟨by simp only[CR,List.getD_cons_zero,DV.cells];exact⟨rows,f,rfl,h⟩,by simp[vR,TT.agg]⟩
 |_=>simp only[CR]at h;subst h;exact⟨by simp only[CR,List.getD_cons_zero,DV.cells],by simp[vR,TT.agg]⟩
theorem Bs{s:Nat}{agg:Bool}{c r:cj}{n:Nat}(hc:c.length=s):rowsOf s agg (c++r) (n+1)=(if agg then .agg c else(c++r).getD 0 bD)::rowsOf s agg r n:=by
 unfold rowsOf;rw[List.range_succ_eq_map,bg,nV];congr 1;unfold rowOf;split
 grind
 grind
 refine List.map_congr_left λi _=>?_;simp only[Function.comp,rowOf,Nat.succ_eq_add_one,j7,Nat.one_mul];rw[yl (i*s) s,<-hc,ym,jy (Nat.le_add_right _ _),rR,gm,aP,aP,fP (Nat.le_add_right _ _),rR]
theorem Es{t:TT}{s:Nat}(hs:t.size=s)(h1:t.agg=true\/s=1):∀{qs:List (Nat×DV)}{i:Nat}{l:List t.den},F1 t i qs l->dZ (CR t) t.agg l (rowsOf s t.agg (iW qs) l.length)
 |[],_,[],_=>by simp[rowsOf,dZ]
 |(j,d)::qs,i,x::l,h=>by
  obtain⟨⟨rfl,hc⟩,h⟩:=h;have hl:d.strip.cells.length=s:=(nB hc).trans hs;have e:iW ((j,d)::qs)=d.strip.cells++iW qs:=by simp[iW]
  rw[e,dA,Bs hl];refine⟨?_,Es hs h1 h⟩;cases ha:t.agg with
  |true=>exact⟨hc,by simp[vR]⟩
  |false=>
   have:=row_one hc ha;rw[ha]at this;have h2:0<d.strip.cells.length:=by rw[hl];rcases h1 with h1|h1<;>first|(rw[ha]at h1;cases h1;done)|omega
   have e2:(d.strip.cells++iW qs).getD 0 bD=d.strip.cells.getD 0 bD:=by grind
   simp only[aJ,if_false];rw[e2];exact this
theorem wU{t:TT}:∀{qs:List (Nat×DV)}{i:Nat}{l:List t.den},F1 t i qs l->(iW qs).all DV.bS=true
 |[],_,[],_=>rfl
 |(j,d)::qs,i,x::l,h=>by
  obtain⟨⟨rfl,hc⟩,h⟩:=h;have e:iW ((j,d)::qs)=d.strip.cells++iW qs:=by simp[iW]
  rw[e,pV,rJ hc,wU h];rfl
theorem Aq:∀{ps:List (Nat×TV)}{qs:List (Nat×DV)},Dt ι S ps qs->qs.length=ps.length
 |[],[],_=>rfl
 |_::ps,_::qs,h=>by simp[Aq h.2]
theorem FB(hE:cz ι S te env){t:TypeId}{n:Nat}{ps:Array (Nat×Operand)}(ho:o.op=.buildSlice t n ps)(h:bJ P ty tt te tS o=some (v,c)):∃d,ah P ty aD call yf (iN env) o S aB=some (d,S)/\RT ι S v d:=by
 simp only[bJ,ho]at h;split at h;rename_i e s kN agg sz z0 l k h1 h2 h3;split at h;rename_i k0 sz' z h4;split at h;rename_i hc;simp only[aC,dL,jw,bP]at hc;obtain⟨⟨⟨⟨⟨⟨⟨c1,c2⟩,c3⟩,c4⟩,c5⟩,c6⟩,c7⟩,c8⟩:=hc;have c8:ty.h o≠1:=by simpa using c8
 simp only[af,ay]at h;obtain⟨w,h5,rfl,-⟩:=h;obtain⟨ds,k1,k2⟩:=qQ hE h2;obtain⟨k3,k4⟩:=D8 k2 h5;have hlen:ds.length=n:=by rw[Aq k2,c3]
 have acr:((List.replicate n z).flatten).length=ds.length*s:=by rw[hlen,List.length_flatten,List.map_replicate,c4,List.sum_replicate_nat]
 have hf:=xm (pre:=[]) (post:=(List.replicate n z).flatten) c5 k3 ab acr;rw[gm,gm]at hf;have hn:w.length=n:=by rw[k4,c3]
 have hr:=Es c5 (by rw[c6];exact c7) k3;rw[c6,hn]at hr;have c7':(agg||s==1)=true:=by simpa using c7
 refine⟨.sl (rowsOf s agg (iW ds) n) none ⟨true,some false⟩,?_,?_⟩;simp only[ah,ho,h1,k1,h4,pU c1,pU c2,gh,if_true,hf,wU k3,c7',c8];simp only[RT,pq,and_self,and_true];rw[c6];exact hr;cases h;cases h;cases h
theorem Wh(hE:cz ι S te env){t:TypeId}{x:Operand}{lo hi mx:Option Operand}(ho:o.op=.slice t x lo hi mx)(h:bJ P ty tt te tS o=some (v,c))(hc:c):∃d,ah P ty aD call yf (iN env) o S aB=some (d,S)/\RT ι S v d:=by
 have hb:∀{y:Option Operand}{b:Option Int},Dp te y=some b->(y=none/\b=none)\/∃z n,y=some z/\b=some n/\intOf (iN env) z=some n:=by
  intro y b hy;cases y with
  |none=>cases hy;exact .inl ⟨rfl,rfl⟩
  |some z=>simp only[Dp,af]at hy;obtain⟨n,h1,rfl⟩:=hy;exact .inr ⟨z,n,rfl,rfl,pP hE h1⟩
 simp only[bJ,ho]at h;split at h;rename_i e s kN agg sz z0 k l ap lo' X5 mx' h1 h2 h3 h4 h5;split at h;rename_i hs;simp only[dL]at hs;simp only[af]at h2;obtain⟨u,h6,h7⟩:=h2;obtain⟨d,k1,k2⟩:=bt hE h6;have k3:=cK (tt:=tt) (t:=t) k2;rw[h7]at k3;cases d<;>simp only[RT]at k3;rename_i rows tok f;obtain⟨k3,k4⟩:=k3;have hlen:=lz k3;have dQ:(rows.all λr=>decide (r.cells.length=s))=true:=aR.2 λr hr=>pU ((je k3 r hr).trans hs);simp only[aF]at h;rcases hb h3 with ⟨rfl,rfl⟩|⟨zl,nl,rfl,rfl,el⟩<;>rcases hb h4 with ⟨rfl,rfl⟩|⟨zh,nh,rfl,rfl,eh⟩<;>rcases hb h5 with ⟨rfl,rfl⟩|⟨zm,nm,rfl,rfl,em⟩<;>
  simp only[U7,ay]at h<;>obtain⟨rfl,rfl⟩:=h
 exact⟨_,by simp only[ah,ho,h1,k1,dQ,gI,gU,rz,if_true,fN,aJ,if_false,Option.isNone,Option.isSome,nW,lg,az];rfl,by simp only[RT,pq,and_true,pS,mF];exact k3⟩
 grind
 have a1:0<=nh/\nh.toNat<=rows.length:=⟨hc.1,by rw[hlen];omega⟩;exact⟨_,by simp only[ah,ho,h1,k1,dQ,gI,eh,a1,gU,rz,if_true,fN,aJ,if_false,Option.isNone,Option.isSome,nW,lg,az,and_self];rfl,by simp only[RT,pq,and_true,pS];exact qN _ k3⟩;obtain⟨b1,rfl,b2⟩:=hc;have a1:0<=nh/\nh.toNat<=rows.length:=⟨b1,by rw[hlen];omega⟩;exact⟨_,by simp only[ah,ho,h1,k1,dQ,gI,eh,em,a1,gU,rz,if_true,fN,aJ,if_false,Option.isNone,Option.isSome,rL,az,and_self,ai];rfl,by simp only[RT,pq,and_true,pS,yq];exact qN _ k3⟩;have a1:0<=nl/\nl.toNat<=rows.length:=⟨hc.1,by rw[hlen];omega⟩;exact⟨_,by simp only[ah,ho,h1,k1,dQ,gI,el,a1,rz,if_true,fN,aJ,if_false,Option.isNone,Option.isSome,nW,lg,az,and_self];rfl,by simp only[RT,pq,and_true,mF];exact u7 _ k3⟩
 grind
 have a1:0<=nh/\nh.toNat<=rows.length:=⟨U,by rw[hlen];omega⟩;have a2:0<=nl/\nl.toNat<=nh.toNat:=⟨hc.1,U⟩;exact⟨_,by simp only[ah,ho,h1,k1,dQ,gI,eh,el,a1,a2,rz,if_true,fN,aJ,if_false,Option.isNone,Option.isSome,nW,lg,az,and_self];rfl,by simp only[RT,pq,and_true];exact u7 _ (qN _ k3)⟩;obtain⟨b0,b1,rfl,b2⟩:=hc;have a1:0<=nh/\nh.toNat<=rows.length:=⟨U,by rw[hlen];omega⟩;have a2:0<=nl/\nl.toNat<=nh.toNat:=⟨b0,U⟩;exact⟨_,by simp only[ah,ho,h1,k1,dQ,gI,eh,el,em,a1,a2,rz,if_true,fN,aJ,if_false,Option.isNone,Option.isSome,rL,az,and_self,ai];rfl,by simp only[RT,pq,and_true,yq];exact u7 _ (qN _ k3)⟩;cases h;cases h
theorem Kr(hE:cz ι S te env)(hP:H7 ι S tS)(h:bJ P ty tt te tS o=some (v,c))(hc:c):∃d,ah P ty aD call yf (iN env) o S aB=some (d,S)/\RT ι S v d:=by
 cases ho:o.op with
 |load t a=>exact aan hE hP ho h
 |buildSlice t n ps=>exact FB hE ho h
 |slice t x lo hi mx=>exact Wh hE ho h hc
 |move x|assign x=>simp only[bJ,ho,af,ay]at h;obtain⟨u,h1,rfl,-⟩:=h;obtain⟨d,k1,k2⟩:=bt hE h1;exact⟨d,by simp only[ah,ho,k1,az],cK k2⟩
 |pick a b d=>simp only[bJ,ho]at h;split at h;rename_i t h1;simp only[af,ay]at h;obtain⟨u,h2,rfl,-⟩:=h;obtain⟨e,k1,k2⟩:=bt hE h1;cases e<;>simp only[RT]at k2;subst k2;obtain⟨e,k3,k4⟩:=WX (λv h=>bt hE h) (λv h=>bt hE h) h2;exact⟨e,by simp only[ah,ho,k1,k3,az],k4⟩;cases h
 |build t ps=>simp only[bJ,ho]at h;split at h;rename_i fs sz z l h1 h2;simp only[af,ay]at h;obtain⟨cs,h3,rfl,-⟩:=h;obtain⟨ds,k1,k2⟩:=qQ hE h2;obtain⟨r,k3,k4⟩:=D5 k2 (uH _) h3;exact⟨.agg r,by simp only[ah,ho,h1,k1,k3,az],by simp only[RT];exact k4⟩;rename_i n s agg sz z l h1 h2;simp only[af,ay]at h;obtain⟨cs,h3,rfl,-⟩:=h;obtain⟨ds,k1,k2⟩:=qQ hE h2;obtain⟨r,k3,k4⟩:=D5 k2 (uH _) h3;exact⟨.agg r,by simp only[ah,ho,h1,k1,k3,az],by simp only[RT];exact k4⟩;cases h
 |nilCheck x=>simp only[bJ,ho]at h;split at h;rename_i id off h1;cases h;obtain⟨d,k1,k2⟩:=bt hE h1;cases d<;>simp only[RT]at k2;exact⟨_,by simp only[ah,ho,k1];rfl,by simp only[RT];exact k2⟩;cases h
 |binOp op t x y u=>simp only[bJ,ho]at h;split at h;rename_i a b h1 h2;simp only[af,ay]at h;obtain⟨w,h3,rfl,-⟩:=h;obtain⟨d,k1,k2⟩:=uF (ι:=ι) (S:=S) h3;exact⟨d,by simp only[ah,ho,dW hE h1,dW hE h2,k1,az],k2⟩;cases h
 |unOp op t x=>simp only[bJ,ho]at h;split at h;rename_i a h1;simp only[af,ay]at h;obtain⟨w,h3,rfl,-⟩:=h;obtain⟨d,k1,k2⟩:=uF (ι:=ι) (S:=S) h3;exact⟨d,by simp only[ah,ho,dW hE h1,k1,az],k2⟩;cases h
 |convert s t x=>simp only[bJ,ho]at h;split at h;rename_i a h1;simp only[af,ay]at h;obtain⟨w,h3,rfl,-⟩:=h;obtain⟨d,k1,k2⟩:=uF (ι:=ι) (S:=S) h3;exact⟨d,by simp only[ah,ho,dW hE h1,k1,az],k2⟩;cases h
 |makeFunc f fs cs=>
  cases f with
  |func f=>simp only[bJ,ho]at h;split at h;rename_i a b h1 h2;cases h;obtain⟨d,k1,k2⟩:=rI hE h1;obtain⟨e,k3,k4⟩:=rI hE h2;exact⟨_,by simp only[ah,ho,k1,k3];rfl,by simp only[RT];exact⟨trivial,k2,k4⟩⟩;cases h
  |_=>simp only[bJ,ho]at h;cases h
 |fieldAddr t x f=>simp only[bJ,ho]at h;split at h;rename_i fs sz z id off h1 h2;split at h;rename_i oo s ag h3;split at h;rename_i h4;cases h;obtain⟨d,k1,k2⟩:=bt hE h2;cases d<;>simp only[RT]at k2;obtain⟨k3,rfl⟩:=k2;exact⟨_,by simp only[ah,ho,h1,k1,h3,h4,if_true];rfl,by simp only[RT];exact⟨k3,trivial⟩⟩;cases h;cases h;rename_i fs sz z k l i off h1 h2;split at h;rename_i oo s ag h3;split at h;rename_i h4;cases h;obtain⟨d,k1,k2⟩:=bt hE h2;cases d<;>simp only[RT]at k2;obtain⟨k3,rfl,rfl,k4⟩:=k2;exact⟨_,by simp only[ah,ho,h1,k1,h3,h4,if_true];rfl,by simp only[RT];exact⟨k3,trivial,trivial,k4⟩⟩;cases h;cases h;cases h
 |field t x f=>simp only[bJ,ho]at h;split at h;rename_i fs sz z l h1 h2;split at h;rename_i off s ag h3;simp only[af,ay]at h;obtain⟨w,h4,rfl,-⟩:=h;obtain⟨d,k1,k2⟩:=bt hE h2;cases d<;>simp only[RT]at k2;obtain⟨r,k3,k4⟩:=qH k2 h4;exact⟨r,by simp only[ah,ho,h1,k1,h3,k3,az],k4⟩;cases h;cases h
 |indexAddr t x i=>
  simp only[bJ,ho]at h;split at h;rename_i e s kN ag sz z k l ap n h1 h2 h3;split at h;rename_i hs;simp only[dL]at hs;cases h;simp only[af]at h2;obtain⟨u,h6,h7⟩:=h2;obtain⟨d,k1,k2⟩:=bt hE h6;have k3:=cK (tt:=tt) (t:=t) k2;rw[h7]at k3;cases d<;>simp only[RT]at k3;obtain⟨k3,-⟩:=k3;have hlt:n.toNat<l.length:=U
  obtain⟨r,m1,m2,-⟩:=DC k3 (bn hlt);exact⟨_,by simp only[ah,ho,h1,k1,pP hE h3,hc.1,if_true,m1,(nB m2).trans hs];rfl,by simp only[RT];exact⟨k3,trivial,trivial,hlt⟩⟩;cases h;rename_i k s ag sz z id off n h1 h2 h3;split at h;rename_i h4;cases h;simp only[af]at h2;obtain⟨u,h6,h7⟩:=h2;obtain⟨d,k1,k2⟩:=bt hE h6;have k3:=cK (tt:=tt) (t:=t) k2;rw[h7]at k3;cases d<;>simp only[RT]at k3;obtain⟨k5,rfl⟩:=k3;exact⟨_,by simp only[ah,ho,h1,k1,pP hE h3,h4,and_self,if_true];rfl,by simp only[RT];exact⟨k5,trivial⟩⟩;cases h;rename_i k s ag sz z e l j off n h1 h2 h3;split at h;rename_i h4;cases h;simp only[af]at h2;obtain⟨u,h6,h7⟩:=h2;obtain⟨d,k1,k2⟩:=bt hE h6;have k3:=cK (tt:=tt) (t:=t) k2;rw[h7]at k3;cases d<;>simp only[RT]at k3;obtain⟨k5,rfl,rfl,k6⟩:=k3;exact⟨_,by simp only[ah,ho,h1,k1,pP hE h3,h4,and_self,if_true];rfl,by simp only[RT];exact⟨k5,trivial,trivial,k6⟩⟩;cases h;cases h
 |index t x i=>simp only[bJ,ho]at h;split at h;rename_i k s ag sz z l n h1 h2 h3;split at h;rename_i h5;simp only[af,ay]at h;obtain⟨w,h4,rfl,-⟩:=h;obtain⟨d,k1,k2⟩:=bt hE h2;cases d<;>simp only[RT]at k2;obtain⟨r,k3,k4⟩:=qH k2 h4;exact⟨r,by simp only[ah,ho,h1,k1,pP hE h3,h5,and_self,if_true,k3,az],k4⟩;cases h;cases h
 |extract t i=>simp only[bJ,ho]at h;split at h;rename_i l h1;simp only[af,ay]at h;obtain⟨w,h4,rfl,-⟩:=h;obtain⟨d,k1,k2⟩:=bt hE h1;cases d<;>simp only[RT]at k2;obtain⟨r,k3,k4⟩:=uI k2 h4;exact⟨r,by simp only[ah,ho,k1,k3,az],cK k4⟩;cases h
 |call cl=>
  obtain⟨callee,args,argTypes⟩:=cl;cases callee with
  |builtin b=>simp only[bJ,ho]at h;split at h;rename_i x t ha ht;split at h;rename_i e s kN ag sz z k l ap h1 h2;cases h;simp only[af]at h2;obtain⟨u,h6,h7⟩:=h2;obtain⟨d,k1,k2⟩:=bt hE h6;have k3:=cK (tt:=tt) (t:=t) k2;rw[h7]at k3;cases d<;>simp only[RT]at k3;exact⟨_,by simp only[ah,ho,ha,ht,h1,k1];rfl,by simp only[RT];rw[lz k3.1]⟩;rename_i n s ag sz z h1;cases h;exact⟨_,by simp only[ah,ho,ha,ht,h1];rfl,by simp only[RT]⟩;rename_i w h2 hn2;simp only[af,ay]at h h2;obtain⟨r,h4,rfl,-⟩:=h;obtain⟨u,h6,h7⟩:=h2;obtain⟨d,k1,k2⟩:=bt hE h6;have k3:=cK (tt:=tt) (t:=t) k2;rw[h7]at k3;cases d<;>simp only[RT]at k3;subst k3;obtain⟨d,k5,k6⟩:=uF (ι:=ι) (S:=S) h4;exact⟨d,by simp only[ah,ho,ha,ht,k1,k5,az],k6⟩;cases h;split at h;rename_i vs h1;simp only[af,ay]at h;obtain⟨r,h4,rfl,-⟩:=h;simp only[lq]at h1;obtain⟨us,h5,h6⟩:=h1;obtain⟨ds,k1,k2⟩:=rI hE h5;obtain⟨d,k5,k6⟩:=uF (ι:=ι) (S:=S) h4;exact⟨d,by simp only[ah,ho,k1,cF,wL k2 h6,k5,az],k6⟩;cases h;split at h;rename_i vs h1;simp only[af,ay]at h;obtain⟨r,h4,rfl,-⟩:=h;simp only[lq]at h1;obtain⟨us,h5,h6⟩:=h1;obtain⟨ds,k1,k2⟩:=rI hE h5;obtain⟨d,k5,k6⟩:=uF (ι:=ι) (S:=S) h4;exact⟨d,by simp only[ah,ho,k1,cF,wL k2 h6,k5,az],k6⟩;cases h;cases h
  |_=>simp only[bJ,ho]at h;cases h
 |_=>simp only[bJ,ho]at h;cases h
end Go.Tv
