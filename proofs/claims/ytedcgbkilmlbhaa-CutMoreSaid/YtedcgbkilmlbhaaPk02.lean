import Derived.Test.YtedcgbkilmlbhaaPk01
namespace Go.Tv
open Go Go.Di
def TV.cells:TV->List TV
 |.agg l=>l
 |v=>[v]
def TV.known:TV->Bool
 |.unk=>false
 |_=>true
def TV.DJ:TV->Bool
 |.unk|.tup _=>false
 |_=>true
def tH:DV->TV
 |.val v=>.val v
 |.sl [] none ⟨true,some true⟩=>.ax
 |_=>.unk
def Y1:DV->TV
 |.agg l=>.agg (l.map tH)
 |.fn f [] []=>.fn f [] []
 |d=>tH d
inductive TB where
 |none
 |cells (l:List TV)
 |own (e s:Nat)
 |map (kt:TT) (l:List kt.den)
 |rows (t:TT) (e:Nat) (l:List t.den) (z:Bool)
 |loop
instance:Inhabited TB:=⟨.none⟩
section
variable (P:Program) (ty:fR) (tt:TypeId->Option TT)
def fK(te:List TV):Operand->Option TV
 |.tmp t=>some (te.getD t .unk)
 |.const v=>(Bv v).map Y1
 |.func f=>some (.fn f [] [])
 |.global _=>none
def lS(te:List TV):List Operand->Option (List TV)
 |[]=>some []
 |x::l=>match fK te x,lS te l with
  |some d,some r=>some (d::r)
  |_,_=>none
def Ax(te:List TV):List (Nat×Operand)->Option (List (Nat×TV))
 |[]=>some []
 |(i,x)::l=>match fK te x,Ax te l with
  |some d,some r=>some ((i,d)::r)
  |_,_=>none
def iO:List TV->Option (List Value)
 |[]=>some []
 |.val v::l=>(iO l).map (v::·)
 |_=>none
def iE:TV->Option Value
 |.val v=>some v
 |.agg l=>(iO l).map λr=>.agg r.toArray
 |_=>none
def yL:List TV->Option (List Value)
 |[]=>some []
 |d::l=>match iE d,yL l with
  |some v,some r=>some (v::r)
  |_,_=>none
def HQ(te:List TV)(x:Operand):Option Int:=
 match fK te x with
 |some (.val (.int _ n))=>some n
 |_=>none
def fM(t:TypeId)(v:TV):TV:=
 match v with
 |.ax=>match tt t with
  |some (.sl e)=>.sl e [] .full
  |_=>.ax
 |v=>v
def adn(l:List TV)(off n:Nat):Option (List TV):=if off+n<=l.length then some ((l.drop off).take n)else none
def MA(l:List TV)(off:Nat)(cs:List TV):Option (List TV):=if off+cs.length<=l.length then some (l.take off++cs++l.drop (off+cs.length))else none
def wH(agg:Bool)(size:Nat)(l:List TV)(off:Nat):Option TV:=if agg then(adn l off size).map .agg else l[off]?
def Kc(place:Nat->Option (Nat×Nat))(cs:List TV):List (Nat×TV)->Option (List TV)
 |[]=>some cs
 |(i,v)::r=>match place i with
  |none=>none
  |some (off,size)=>if v.known&&v.cells.length==size then match MA cs off v.cells with
    |some lC=>Kc place lC r
    |none=>none
   else none
def xo:Option DV->Option TV
 |some (.val v)=>some (.val v)
 |_=>none
def DG(t:TT)(i:Nat):List (Nat×TV)->Option (List t.den)
 |[]=>some []
 |(j,v)::r=>if j==i&&v.DJ then match t.of v.cells,DG t (i+1) r with
   |some (x,[]),some l=>some (x::l)
   |_,_=>none
  else none
def Uk(t:Bool):Option TV->Option TV->Option TV
 |some (.val (.bool x)),some (.val (.bool y))=>some (.val (.bool (bif t then x else y)))
 |some (.val (.int k x)),some (.val (.int k' y))=>if k'=k then some (.val (.int k (bif t then x else y)))else none
 |a,b=>match t with
  |true=>a
  |false=>b
def DK(te:List TV):Option Operand->Option (Option Int)
 |none=>some none
 |some x=>(HQ te x).map some
def aiD(o:Option Int)(eL:Nat):Prop:=
 match o with
 |none=>True
 |some n=>0<=n/\n<=(eL:Int)
def U4(t:TT)(l:List t.den)(lo hi mx:Option Int):TV×Prop:=
 match mx with
 |none=>match hi with
  |none=>match lo with
   |none=>(.sl t l .no,True)
   |some a=>(.sl t (l.drop a.toNat) .no,0<=a/\a<=(l.length:Int))
  |some h=>match lo with
   |none=>(.sl t (l.take h.toNat) .no,0<=h/\h<=(l.length:Int))
   |some a=>(.sl t ((l.take h.toNat).drop a.toNat) .no,0<=a/\a<=h/\h<=(l.length:Int))
 |some m=>match hi with
  |none=>(.unk,False)
  |some h=>match lo with
   |none=>(.sl t (l.take h.toNat) .full,0<=h/\h=m/\h<=(l.length:Int))
   |some a=>(.sl t ((l.take h.toNat).drop a.toNat) .full,0<=a/\a<=h/\h=m/\h<=(l.length:Int))
def bQ(te:List TV)(tS:List TB)(o:Oper):Option (TV×Prop):=
 match o.op with
 |.move x|.assign x=>(fK te x).map λv=>(fM tt o.type v,True)
 |.pick c a b=>match fK te c with
  |some (.val (.bool t))=>(Uk t (fK te a) (fK te b)).map (·,True)
  |_=>none
 |.build t ps=>match ty t,Ax te ps.toList with
  |some ⟨.struct fs,_,some z⟩,some l=>(Kc (λi=>(fs[i]?).map λf=>(f.1,f.2.1)) (z.map tH) l).map λcs=>(.agg cs,True)
  |some ⟨.array _ s _,_,some z⟩,some l=>(Kc (λi=>some (i*s,s)) (z.map tH) l).map λcs=>(.agg cs,True)
  |_,_=>none
 |.buildSlice t n ps=>match ty t,Ax te ps.toList,tt t with
  |some ⟨.slice e s _ agg,_,_⟩,some l,some (.sl k)=>match ty e with
   |some ⟨_,_,some z⟩=>if decide (0<s)&&decide (n*s<=16777216)&&l.length==n&&z.length==s&&k.size==s&&k.agg==agg&&(agg||s==1)&&ty.h o !=1 then
     (DG k 0 l).map λl=>(.sl k l .full,True)
    else none
   |_=>none
  |_,_,_=>none
 |.load t a=>match ty t,fK te a with
  |some d,some (.ptr id off)=>match tS[id]? with
   |some (.cells l)=>(wH d.k.isAgg d.size l off).map λv=>(fM tt t v,True)
   |_=>none
  |some d,some (.fq e l i off)=>(wH d.k.isAgg d.size (e.cells (l.getD i e.dft)) off).map λv=>(fM tt t v,True)
  |_,_=>none
 |.nilCheck x=>match fK te x with
  |some (.ptr id off)=>some (.ptr id off,True)
  |_=>none
 |.binOp op t x y _=>match(fK te x).bind iE,(fK te y).bind iE with
  |some a,some b=>(xo (jw P (do eqGuard op t x y a b;binOp op t a b))).map (·,True)
  |_,_=>none
 |.unOp op _ x=>match(fK te x).bind iE with
  |some a=>(xo (jw P (Op.unary op a))).map (·,True)
  |none=>none
 |.convert s d x=>match(fK te x).bind iE with
  |some a=>(xo (jw P (Go.convert s d a))).map (·,True)
  |none=>none
 |.makeFunc (.func f) fs cs=>match lS te fs.toList,lS te cs.toList with
  |some a,some b=>some (.fn f a b,True)
  |_,_=>none
 |.slice t x lo hi mx=>match ty t,(fK te x).map (fM tt t),DK te lo,DK te hi,DK te mx with
  |some ⟨.slice _ s _ _,_,_⟩,some (.sl k l _),some lo,some hi,some mx=>if k.size==s then some (U4 k l lo hi mx)else none
  |_,_,_,_,_=>none
 |.fieldAddr t x f=>match ty t,fK te x with
  |some ⟨.struct fs,_,_⟩,some (.ptr id off)=>match fs[f]? with
   |some (o,s,_)=>if 0<s then some (.ptr id (off+o),True)else none
   |none=>none
  |some ⟨.struct fs,_,_⟩,some (.fq k l i off)=>match fs[f]? with
   |some (o,s,_)=>if 0<s then some (.fq k l i (off+o),True)else none
   |none=>none
  |_,_=>none
 |.field t x f=>match ty t,fK te x with
  |some ⟨.struct fs,_,_⟩,some (.agg l)=>match fs[f]? with
   |some (off,s,agg)=>(wH agg s l off).map (·,True)
   |none=>none
  |_,_=>none
 |.indexAddr t x i=>match ty t,(fK te x).map (fM tt t),HQ te i with
  |some ⟨.slice _ s _ _,_,_⟩,some (.sl k l _),some n=>if k.size==s then some (.fq k l n.toNat 0,0<=n/\n<(l.length:Int))else none
  |some ⟨.array k s _,_,_⟩,some (.ptr id off),some n=>if 0<=n/\n.toNat<k then some (.ptr id (off+n.toNat*s),True)else none
  |some ⟨.array k s _,_,_⟩,some (.fq e l j off),some n=>if 0<=n/\n.toNat<k then some (.fq e l j (off+n.toNat*s),True)else none
  |_,_,_=>none
 |.index t x i=>match ty t,fK te x,HQ te i with
  |some ⟨.array k s agg,_,_⟩,some (.agg l),some n=>if 0<=n/\n.toNat<k then(wH agg s l (n.toNat*s)).map (·,True)else none
  |_,_,_=>none
 |.extract t i=>match fK te t with
  |some (.tup l)=>(l[i]?).map λv=>(fM tt o.type v,True)
  |_=>none
 |.call {callee:=.builtin b,args,argTypes}=>match b,args.toList,argTypes.toList with
  |.len,[x],[t]=>match ty t,(fK te x).map (fM tt t)with
   |some ⟨.slice _ _ _ _,_,_⟩,some (.sl _ l _)=>some (.val (.int .i64 (l.length:Nat)),True)
   |some ⟨.array n _ _,_,_⟩,_=>some (.val (.int .i64 n),True)
   |_,some (.val v)=>(xo (jw P (Builtin.len_ #[t] o.type #[v]))).map (·,True)
   |_,_=>none
  |.min,xs,_=>match(lS te xs).bind yL with
   |some vs=>(xo (jw P (Builtin.min_ argTypes o.type vs.toArray))).map (·,True)
   |none=>none
  |.max,xs,_=>match(lS te xs).bind yL with
   |some vs=>(xo (jw P (Builtin.max_ argTypes o.type vs.toArray))).map (·,True)
   |none=>none
  |_,_,_=>none
 |_=>none
end
section
variable {P:Program} {ty:fR} {tt:TypeId->Option TT} {ι:kY} {S:ai} {te:List TV} {env:List DV} {tS:List TB}
theorem uQ{v:TV}{d:DV}(hk:v.known=true)(h:RT ι S v d):cK ι S v.cells d.cells:=by cases v<;>cases d<;>simp only[RT]at h<;>first|(cases hk;done)|exact h|(refine kQ ?_;simp only[RT];exact h)
theorem U8(d:DV):RT ι S (tH d) d:=by unfold tH;split<;>simp[RT]
theorem vA:∀l:List DV,cK ι S (l.map tH) l
 |[]=>bO
 |d::l=>aT (U8 d) (vA l)
theorem af6(d:DV):RT ι S (Y1 d) d:=by
 unfold Y1;split;.simp only[RT];exact vA _
 .simp only[RT,cK,and_true]
 exact U8 _
theorem bE(h:cK ι S te env){x:Operand}{v:TV}(hx:fK te x=some v):∃d,jr env x=some d/\RT ι S v d:=by
 cases x with
 |tmp t=>cases hx;exact⟨_,rfl,D2 h t⟩
 |const u=>simp only[fK,af]at hx;obtain⟨d,h1,rfl⟩:=hx;exact⟨d,h1,af6 d⟩
 |func f=>cases hx;exact⟨_,rfl,by simp only[RT,cK,and_true]⟩
 |global g=>cases hx
theorem sQ(h:cK ι S te env):∀{xs:List Operand}{vs:List TV},lS te xs=some vs->∃ds,evs (jr env) xs=some ds/\cK ι S vs ds
 |[],_,hx=>by cases hx;exact⟨[],rfl,bO⟩
 |x::l,vs,hx=>by
  simp only[lS]at hx;split at hx;.rename_i d r h1 h2;cases hx;obtain⟨d',k1,k2⟩:=bE h h1;obtain⟨ds,k3,k4⟩:=sQ h h2;exact⟨d'::ds,by simp only[evs,k1,k3],aT k2 k4⟩
  cases hx
def DO(ι:kY)(S:ai):List (Nat×TV)->List (Nat×DV)->Prop
 |[],[]=>True
 |(i,v)::l,(j,d)::m=>(j=i/\RT ι S v d)/\DO ι S l m
 |_,_=>False
theorem rX(h:cK ι S te env):∀{xs:List (Nat×Operand)}{vs:List (Nat×TV)},Ax te xs=some vs->∃ds,kE (jr env) xs=some ds/\DO ι S vs ds
 |[],_,hx=>by cases hx;exact⟨[],rfl,trivial⟩
 |(i,x)::l,vs,hx=>by
  simp only[Ax]at hx;split at hx;.rename_i d r h1 h2;cases hx;obtain⟨d',k1,k2⟩:=bE h h1;obtain⟨ds,k3,k4⟩:=rX h h2;exact⟨(i,d')::ds,by simp only[kE,k1,k3],⟨rfl,k2⟩,k4⟩
  cases hx
theorem BN:∀{l:List TV}{m:List DV}{vs:List Value},cK ι S l m->iO l=some vs->sL m=some vs
 |[],m,vs,h,hx=>by rw[aR h];exact hx
 |a::l,m,vs,h,hx=>by
  obtain⟨d,m',rfl,h1,h2⟩:=aj h;unfold iO at hx;split at hx;.rename_i e;cases e
  .rename_i v l' e;cases e;simp only[af]at hx;obtain⟨r,h3,rfl⟩:=hx;cases d<;>simp only[RT]at h1;subst h1;simp only[sL,BN h2 h3,ay]
  cases hx
theorem Gu{v:TV}{d:DV}{u:Value}(h:RT ι S v d)(hx:iE v=some u):Br d=some u:=by
 unfold iE at hx;split at hx;.cases hx;cases d<;>simp only[RT]at h;subst h;rfl
 .simp only[af]at hx;obtain⟨r,h1,rfl⟩:=hx;cases d<;>simp only[RT]at h;simp only[Br,BN h h1,ay]
 cases hx
theorem xG:∀{l:List TV}{m:List DV}{vs:List Value},cK ι S l m->yL l=some vs->uJ m=some vs
 |[],m,vs,h,hx=>by rw[aR h];exact hx
 |a::l,m,vs,h,hx=>by
  obtain⟨d,m',rfl,h1,h2⟩:=aj h;simp only[yL]at hx;split at hx;.rename_i v r e1 e2;cases hx;simp only[uJ,Gu h1 e1,xG h2 e2]
  cases hx
theorem gh(h:cK ι S te env){x:Operand}{u:Value}(hx:(fK te x).bind iE=some u):valOf (jr env) x=some u:=by
 cases h1:fK te x with
 |none=>rw[h1]at hx;cases hx
 |some v=>rw[h1]at hx;obtain⟨d,h2,h3⟩:=bE h h1;simp only[valOf,h2,cn];exact Gu h3 hx
theorem qE(h:cK ι S te env){x:Operand}{n:Int}(hx:HQ te x=some n):intOf (jr env) x=some n:=by
 unfold HQ at hx;split at hx;.rename_i k m h1;cases hx;obtain⟨d,h2,h3⟩:=bE h h1;cases d<;>simp only[RT]at h3;subst h3;simp only[intOf,h2]
 cases hx
theorem cZ{t:TypeId}{v:TV}{d:DV}(h:RT ι S v d):RT ι S (fM tt t v) d:=by
 unfold fM;split
 .split;.cases d<;>simp only[RT]at h;obtain⟨rfl,rfl,rfl⟩:=h;simp only[RT,fC,pL,and_self]
  exact h
 exact h
theorem aa4{l:List TV}{m:List DV}(h:cK ι S l m){off n:Nat}{r:List TV}(hx:adn l off n=some r):∃r',TU m off n=some r'/\cK ι S r r':=by
 unfold adn at hx;split at hx;.cases hx;rename_i hle;exact⟨_,if_pos (by rw[gE h];exact hle),D1 _ (D4 _ h)⟩
 cases hx
theorem IU{l:List TV}{m:List DV}(h:cK ι S l m){cs:List TV}{ds:List DV}(hc:cK ι S cs ds){off:Nat}{r:List TV}(hx:MA l off cs=some r):∃r',wA m off ds=some r'/\cK ι S r r':=by
 unfold MA at hx;split at hx;.cases hx;rename_i hle;refine⟨_,if_pos (by rw[gE h,gE hc];exact hle),er (er (D1 _ h) hc) ?_⟩;rw[gE hc];exact D4 _ h
 cases hx
theorem rO{l:List TV}{m:List DV}(h:cK ι S l m){agg:Bool}{size off:Nat}{r:TV}(hx:wH agg size l off=some r):∃r',pO agg size m off=some r'/\RT ι S r r':=by
 unfold wH at hx;split at hx;.rename_i ha;simp only[af]at hx;obtain⟨r1,h1,rfl⟩:=hx;obtain⟨r',h2,h3⟩:=aa4 h h1;exact⟨.agg r',by simp only[pO,ha,if_true,h2,ay],by simp only[RT];exact h3⟩
 rename_i ha;obtain⟨d,h1,h2⟩:=vB h hx;exact⟨d,by simp only[pO,ha,h1];rfl,h2⟩
theorem En{place:Nat->Option (Nat×Nat)}:∀{ps:List (Nat×TV)}{qs:List (Nat×DV)}{l:List TV}{m:List DV}{r:List TV},DO ι S ps qs->cK ι S l m->Kc place l ps=some r->∃r',lG place m qs=some r'/\cK ι S r r'
 |[],[],l,m,r,_,h,hx=>by cases hx;exact⟨m,rfl,h⟩
 |(i,v)::ps,(j,d)::qs,l,m,r,hp,h,hx=>by
  obtain⟨⟨rfl,hv⟩,hp⟩:=hp;simp only[Kc]at hx;split at hx;.cases hx
  rename_i off size Bn;split at hx
  .rename_i hc;simp only[aC,dX]at hc;have om:=uQ hc.1 hv;split at hx;.rename_i lC pH;obtain⟨m',h1,h2⟩:=IU h om pH;obtain⟨r',h3,h4⟩:=En hp h2 hx;refine⟨r',?_,h4⟩;simp only[lG,Bn,gE om,hc.2,if_true,h1,h3]
   cases hx
  cases hx
theorem vu{o:Option DV}{v:TV}(h:xo o=some v):∃d,o=some d/\RT ι S v d:=by
 unfold xo at h;split at h;.cases h;exact⟨_,rfl,by simp only[RT]⟩
 cases h
theorem WV{t:Bool}{a b:Option TV}{v:TV}{a' b':Option DV}(ha:∀v,a=some v->∃d,a'=some d/\RT ι S v d)(hb:∀v,b=some v->∃d,b'=some d/\RT ι S v d)(h:Uk t a b=some v):∃d,(if t then a' else b')=some d/\RT ι S v d:=by
 unfold Uk at h;split at h
 .cases h;obtain⟨d,h1,h2⟩:=ha _ rfl;obtain⟨e,h3,h4⟩:=hb _ rfl;cases t;.exact⟨e,h3,h4⟩
  exact⟨d,h1,h2⟩
 .split at h
  .rename_i hk;subst hk;cases h;obtain⟨d,h1,h2⟩:=ha _ rfl;obtain⟨e,h3,h4⟩:=hb _ rfl;cases t;.exact⟨e,h3,h4⟩
   exact⟨d,h1,h2⟩
  cases h
 split at h;.exact ha _ h
 exact hb _ h
end
end Go.Tv
namespace Go.Tv
open Go Go.Di
variable {P:Program} {ty:fR} {tt:TypeId->Option TT} {ι:kY} {S:ai} {te:List TV} {env:List DV} {tS:List TB} {aK:bR} {call:bt} {yf:ej} {o:Oper} {aF:Nat} {v:TV} {c:Prop}
def Ix(ι:kY)(S:ai)(tS:List TB):Prop:=∀k l,tS[k]? =some (.cells l)->∃k' ds,ι k=some k'/\S[k']? =some (.cells ds)/\cK ι S l ds
theorem aaA(hE:cK ι S te env)(hP:Ix ι S tS){t:TypeId}{a:Operand}(ho:o.op=.load t a)(h:bQ P ty tt te tS o=some (v,c)):∃d,ah P ty aK call yf (jr env) o S aF=some (d,S)/\RT ι S v d:=by
 simp only[bQ,ho]at h;split at h
 .rename_i td id off h1 h2;split at h;.rename_i l h3;simp only[af,az]at h;obtain⟨w,h4,rfl,-⟩:=h;obtain⟨d,k1,k2⟩:=bE hE h2;obtain⟨iT,ds,k3,k4,k5⟩:=hP _ _ h3;cases d<;>simp only[RT]at k2;obtain⟨k6,rfl⟩:=k2;rw[k3]at k6;cases k6;obtain⟨r,k7,k8⟩:=rO k5 h4;exact⟨r,by simp only[ah,ho,k1,lE,h1,k4,k7,ay],cZ k8⟩
  cases h
 .rename_i td e l i off h1 h2;simp only[af,az]at h;obtain⟨w,h4,rfl,-⟩:=h;obtain⟨d,k1,k2⟩:=bE hE h2;cases d<;>simp only[RT]at k2;obtain⟨k3,rfl,rfl,k4⟩:=k2;obtain⟨r,m1,m2,-⟩:=D5 k3 (bP k4);rename_i j j';have hg:l.getD j e.dft=l[j]:=by simp[aP,k4]
  rw[hg]at h4;obtain⟨r',m3,m4⟩:=rO (rT (ι:=ι) (S:=S) m2) h4;exact⟨r',by simp only[ah,ho,k1,lE,h1,m1,m3,ay],cZ m4⟩
 cases h
def Gp(t:TT):Nat->List (Nat×DV)->List t.den->Prop
 |_,[],[]=>True
 |i,(j,d)::qs,x::l=>(j=i/\CR t x d.strip.cells)/\Gp t (i+1) qs l
 |_,_,_=>False
theorem LJ{v:TV}{d:DV}(hk:v.DJ=true)(h:RT ι S v d):d.strip.cells=d.cells.map DV.aO:=by cases v<;>cases d<;>simp only[RT]at h<;>first|(cases hk;done)|rfl
theorem Lg{v:TV}(hk:v.DJ=true):v.known=true:=by cases v<;>first|rfl|cases hk
theorem Er{t:TT}:∀{ps:List (Nat×TV)}{qs:List (Nat×DV)}{i:Nat}{l:List t.den},DO ι S ps qs->DG t i ps=some l->Gp t i qs l/\l.length=ps.length
 |[],[],i,l,_,h=>by cases h;exact⟨trivial,rfl⟩
 |(j,v)::ps,(j',d)::qs,i,l,hp,h=>by
  obtain⟨⟨rfl,hv⟩,hp⟩:=hp;simp only[DG]at h;split at h
  .rename_i hc;simp only[aC,dX]at hc;obtain⟨rfl,hk⟩:=hc;split at h;.rename_i x l' h1 h2;cases h;obtain⟨cs,m',e1,e2,e3⟩:=Ga h1 (uQ (Lg hk) hv);rw[aR e3,dZ]at e1;obtain⟨k1,k2⟩:=Er hp h2;exact⟨⟨⟨rfl,by rw[LJ hk hv,e1];exact e2⟩,k1⟩,by simp[k2]⟩
   cases h
  cases h
def jE(qs:List (Nat×DV)):List DV:=qs.flatMap λq=>q.2.strip.cells
theorem x7{t:TT}{s:Nat}(hs:t.size=s):∀{qs:List (Nat×DV)}{i:Nat}{l:List t.den}{pre post:List DV},Gp t i qs l->pre.length=i*s->post.length=qs.length*s->
  lG (λi=>some (i*s,s)) (pre++post) (qs.map λ(i,v)=>(i,v.strip))=some (pre++jE qs)
 |[],i,[],pre,post,_,hp,hq=>by have:post=[]:=eS (by simpa using hq);subst this;simp[lG,jE]
 |(j,d)::qs,i,x::l,pre,post,h,hp,hq=>by
  obtain⟨⟨rfl,hc⟩,h⟩:=h;have hl:d.strip.cells.length=s:=(ru hc).trans hs;have S9:post.length=qs.length*s+s:=by rw[hq,dN,jX,Nat.one_mul]
  have pH:wA (pre++post) (j*s) d.strip.cells=some ((pre++d.strip.cells)++post.drop s):=by unfold wA;rw[if_pos (by rw[bU,hp,hl];omega),hl,<-hp,List.take_left' rfl,y6,j3 (by omega)];simp
  simp only[bn,lG,hl,if_true,pH];rw[x7 hs h (by rw[bU,hp,hl,jX,Nat.one_mul]) (by rw[List.length_drop,S9];omega)];simp[jE]
theorem row_one{t:TT}{x:t.den}{cs:List DV}(h:CR t x cs)(ha:t.agg=false):CR t x (cs.getD 0 bF).cells/\Ds t.agg (cs.getD 0 bF):=by
 cases t with
 |unit|pair=>cases ha
 |sl t=>simp only[CR]at h;obtain⟨rows,f,rfl,h⟩:=h;exact⟨by simp only[CR,List.getD_cons_zero,DV.cells];exact⟨rows,f,rfl,h⟩,by simp[Ds,TT.agg]⟩
 |_=>simp only[CR]at h;subst h;exact⟨by simp only[CR,List.getD_cons_zero,DV.cells],by simp[Ds,TT.agg]⟩
theorem BS{s:Nat}{agg:Bool}{c r:List DV}{n:Nat}(hc:c.length=s):rowsOf s agg (c++r) (n+1)=(if agg then .agg c else(c++r).getD 0 bF)::rowsOf s agg r n:=by
 unfold rowsOf;rw[List.range_succ_eq_map,bn,qF];congr 1
 .unfold rowOf;split;.rw[Nat.zero_mul,nG,List.take_left' hc]
  rw[Nat.zero_mul]
 refine List.map_congr_left λi _=>?_;simp only[Function.comp,rowOf,Nat.succ_eq_add_one,jX,Nat.one_mul];rw[nF (i*s) s,<-hc,y6,j3 (Nat.le_add_right _ _),qN,gZ,aP,aP,iI (Nat.le_add_right _ _),qN]
theorem EH{t:TT}{s:Nat}(hs:t.size=s)(h1:t.agg=true\/s=1):∀{qs:List (Nat×DV)}{i:Nat}{l:List t.den},Gp t i qs l->fC (CR t) t.agg l (rowsOf s t.agg (jE qs) l.length)
 |[],_,[],_=>by simp[rowsOf,fC]
 |(j,d)::qs,i,x::l,h=>by
  obtain⟨⟨rfl,hc⟩,h⟩:=h;have hl:d.strip.cells.length=s:=(ru hc).trans hs;have e:jE ((j,d)::qs)=d.strip.cells++jE qs:=by simp[jE]
  rw[e,dN,BS hl];refine⟨?_,EH hs h1 h⟩;cases ha:t.agg with
  |true=>exact⟨hc,by simp[Ds]⟩
  |false=>
   have:=row_one hc ha;rw[ha]at this;have h2:0<d.strip.cells.length:=by rw[hl];rcases h1 with h1|h1<;>first|(rw[ha]at h1;cases h1;done)|omega
   have e2:(d.strip.cells++jE qs).getD 0 bF=d.strip.cells.getD 0 bF:=by simp only[aP,ee h2]
   simp only[aI,if_false];rw[e2];exact this
theorem xO{t:TT}:∀{qs:List (Nat×DV)}{i:Nat}{l:List t.den},Gp t i qs l->(jE qs).all DV.ck=true
 |[],_,[],_=>rfl
 |(j,d)::qs,i,x::l,h=>by
  obtain⟨⟨rfl,hc⟩,h⟩:=h;have e:jE ((j,d)::qs)=d.strip.cells++jE qs:=by simp[jE]
  rw[e,oV,vK hc,xO h];rfl
theorem A0:∀{ps:List (Nat×TV)}{qs:List (Nat×DV)},DO ι S ps qs->qs.length=ps.length
 |[],[],_=>rfl
 |_::ps,_::qs,h=>by simp[A0 h.2]
theorem FT(hE:cK ι S te env){t:TypeId}{n:Nat}{ps:Array (Nat×Operand)}(ho:o.op=.buildSlice t n ps)(h:bQ P ty tt te tS o=some (v,c)):∃d,ah P ty aK call yf (jr env) o S aF=some (d,S)/\RT ι S v d:=by
 simp only[bQ,ho]at h;split at h
 .rename_i e s lR agg sz z0 l k h1 h2 h3;split at h
  .rename_i k0 sz' z h4;split at h
   .rename_i hc;simp only[aC,dX,gY,cq]at hc;obtain⟨⟨⟨⟨⟨⟨⟨c1,c2⟩,c3⟩,c4⟩,c5⟩,c6⟩,c7⟩,c8⟩:=hc;have c8:ty.h o≠1:=by simpa using c8
    simp only[af,az]at h;obtain⟨w,h5,rfl,-⟩:=h;obtain⟨ds,k1,k2⟩:=rX hE h2;obtain⟨k3,k4⟩:=Er k2 h5;have hlen:ds.length=n:=by rw[A0 k2,c3]
    have acY:((List.replicate n z).flatten).length=ds.length*s:=by rw[hlen,List.length_flatten,List.map_replicate,c4,List.sum_replicate_nat]
    have hf:=x7 (pre:=[]) (post:=(List.replicate n z).flatten) c5 k3 (by simp) acY;rw[gZ,gZ]at hf;have hn:w.length=n:=by rw[k4,c3]
    have hr:=EH c5 (by rw[c6];exact c7) k3;rw[c6,hn]at hr;have c7':(agg||s==1)=true:=by simpa using c7
    refine⟨.sl (rowsOf s agg (jE ds) n) none ⟨true,some false⟩,?_,?_⟩;.simp only[ah,ho,h1,k1,h4,eF c1,eF c2,fT,if_true,hf,xO k3,c7',c8]
    simp only[RT,pL,and_self,and_true];rw[c6];exact hr
   cases h
  cases h
 cases h
theorem Wc(hE:cK ι S te env){t:TypeId}{x:Operand}{lo hi mx:Option Operand}(ho:o.op=.slice t x lo hi mx)(h:bQ P ty tt te tS o=some (v,c))(hc:c):∃d,ah P ty aK call yf (jr env) o S aF=some (d,S)/\RT ι S v d:=by
 have hb:∀{y:Option Operand}{b:Option Int},DK te y=some b->(y=none/\b=none)\/∃z n,y=some z/\b=some n/\intOf (jr env) z=some n:=by
  intro y b hy;cases y with
  |none=>cases hy;exact .inl ⟨rfl,rfl⟩
  |some z=>simp only[DK,af]at hy;obtain⟨n,h1,rfl⟩:=hy;exact .inr ⟨z,n,rfl,rfl,qE hE h1⟩
 simp only[bQ,ho]at h;split at h
 .rename_i e s lR agg sz z0 k l ap lo' Fg mx' h1 h2 h3 h4 h5;split at h
  .rename_i hs;simp only[dX]at hs;simp only[af]at h2;obtain⟨u,h6,h7⟩:=h2;obtain⟨d,k1,k2⟩:=bE hE h6;have k3:=cZ (tt:=tt) (t:=t) k2;rw[h7]at k3;cases d<;>simp only[RT]at k3;rename_i rows tok f;obtain⟨k3,k4⟩:=k3;have hlen:=kN k3;have fL:(rows.all λr=>decide (r.cells.length=s))=true:=aX.2 λr hr=>eF ((jL k3 r hr).trans hs);simp only[aB]at h;rcases hb h3 with ⟨rfl,rfl⟩|⟨zl,nl,rfl,rfl,el⟩<;>rcases hb h4 with ⟨rfl,rfl⟩|⟨zh,nh,rfl,rfl,eh⟩<;>rcases hb h5 with ⟨rfl,rfl⟩|⟨zm,nm,rfl,rfl,em⟩<;>
    simp only[U4,az]at h<;>obtain⟨rfl,rfl⟩:=h
   .exact⟨_,by simp only[ah,ho,h1,k1,fL,iq,kT,sF,if_true,gn,aI,if_false,Option.isNone,Option.isSome,oU,mw,ay];rfl,by simp only[RT,pL,and_true,nG,iH];exact k3⟩
   .exact hc.elim
   .have a1:0<=nh/\nh.toNat<=rows.length:=⟨hc.1,by rw[hlen];omega⟩;exact⟨_,by simp only[ah,ho,h1,k1,fL,iq,eh,a1,kT,sF,if_true,gn,aI,if_false,Option.isNone,Option.isSome,oU,mw,ay,and_self];rfl,by simp only[RT,pL,and_true,nG];exact rU _ k3⟩
   .obtain⟨b1,rfl,b2⟩:=hc;have a1:0<=nh/\nh.toNat<=rows.length:=⟨b1,by rw[hlen];omega⟩;exact⟨_,by simp only[ah,ho,h1,k1,fL,iq,eh,em,a1,kT,sF,if_true,gn,aI,if_false,Option.isNone,Option.isSome,sS,ay,and_self,ak];rfl,by simp only[RT,pL,and_true,nG,oW];exact rU _ k3⟩
   .have a1:0<=nl/\nl.toNat<=rows.length:=⟨hc.1,by rw[hlen];omega⟩;exact⟨_,by simp only[ah,ho,h1,k1,fL,iq,el,a1,sF,if_true,gn,aI,if_false,Option.isNone,Option.isSome,oU,mw,ay,and_self];rfl,by simp only[RT,pL,and_true,iH];exact vX _ k3⟩
   .exact hc.elim
   .have a1:0<=nh/\nh.toNat<=rows.length:=⟨by omega,by rw[hlen];omega⟩;have a2:0<=nl/\nl.toNat<=nh.toNat:=⟨hc.1,by omega⟩;exact⟨_,by simp only[ah,ho,h1,k1,fL,iq,eh,el,a1,a2,sF,if_true,gn,aI,if_false,Option.isNone,Option.isSome,oU,mw,ay,and_self];rfl,by simp only[RT,pL,and_true];exact vX _ (rU _ k3)⟩
   obtain⟨b0,b1,rfl,b2⟩:=hc;have a1:0<=nh/\nh.toNat<=rows.length:=⟨by omega,by rw[hlen];omega⟩;have a2:0<=nl/\nl.toNat<=nh.toNat:=⟨b0,by omega⟩;exact⟨_,by simp only[ah,ho,h1,k1,fL,iq,eh,el,em,a1,a2,sF,if_true,gn,aI,if_false,Option.isNone,Option.isSome,sS,ay,and_self,ak];rfl,by simp only[RT,pL,and_true,oW];exact vX _ (rU _ k3)⟩
  cases h
 cases h
theorem KU(hE:cK ι S te env)(hP:Ix ι S tS)(h:bQ P ty tt te tS o=some (v,c))(hc:c):∃d,ah P ty aK call yf (jr env) o S aF=some (d,S)/\RT ι S v d:=by
 cases ho:o.op with
 |load t a=>exact aaA hE hP ho h
 |buildSlice t n ps=>exact FT hE ho h
 |slice t x lo hi mx=>exact Wc hE ho h hc
 |move x|assign x=>simp only[bQ,ho,af,az]at h;obtain⟨u,h1,rfl,-⟩:=h;obtain⟨d,k1,k2⟩:=bE hE h1;exact⟨d,by simp only[ah,ho,k1,ay],cZ k2⟩
 |pick a b d=>
  simp only[bQ,ho]at h;split at h;.rename_i t h1;simp only[af,az]at h;obtain⟨u,h2,rfl,-⟩:=h;obtain⟨e,k1,k2⟩:=bE hE h1;cases e<;>simp only[RT]at k2;subst k2;obtain⟨e,k3,k4⟩:=WV (λv h=>bE hE h) (λv h=>bE hE h) h2;exact⟨e,by simp only[ah,ho,k1,k3,ay],k4⟩
  cases h
 |build t ps=>
  simp only[bQ,ho]at h;split at h;.rename_i fs sz z l h1 h2;simp only[af,az]at h;obtain⟨cs,h3,rfl,-⟩:=h;obtain⟨ds,k1,k2⟩:=rX hE h2;obtain⟨r,k3,k4⟩:=En k2 (vA _) h3;exact⟨.agg r,by simp only[ah,ho,h1,k1,k3,ay],by simp only[RT];exact k4⟩
  .rename_i n s agg sz z l h1 h2;simp only[af,az]at h;obtain⟨cs,h3,rfl,-⟩:=h;obtain⟨ds,k1,k2⟩:=rX hE h2;obtain⟨r,k3,k4⟩:=En k2 (vA _) h3;exact⟨.agg r,by simp only[ah,ho,h1,k1,k3,ay],by simp only[RT];exact k4⟩
  cases h
 |nilCheck x=>
  simp only[bQ,ho]at h;split at h;.rename_i id off h1;cases h;obtain⟨d,k1,k2⟩:=bE hE h1;cases d<;>simp only[RT]at k2;exact⟨_,by simp only[ah,ho,k1];rfl,by simp only[RT];exact k2⟩
  cases h
 |binOp op t x y u=>
  simp only[bQ,ho]at h;split at h;.rename_i a b h1 h2;simp only[af,az]at h;obtain⟨w,h3,rfl,-⟩:=h;obtain⟨d,k1,k2⟩:=vu (ι:=ι) (S:=S) h3;exact⟨d,by simp only[ah,ho,gh hE h1,gh hE h2,k1,ay],k2⟩
  cases h
 |unOp op t x=>
  simp only[bQ,ho]at h;split at h;.rename_i a h1;simp only[af,az]at h;obtain⟨w,h3,rfl,-⟩:=h;obtain⟨d,k1,k2⟩:=vu (ι:=ι) (S:=S) h3;exact⟨d,by simp only[ah,ho,gh hE h1,k1,ay],k2⟩
  cases h
 |convert s t x=>
  simp only[bQ,ho]at h;split at h;.rename_i a h1;simp only[af,az]at h;obtain⟨w,h3,rfl,-⟩:=h;obtain⟨d,k1,k2⟩:=vu (ι:=ι) (S:=S) h3;exact⟨d,by simp only[ah,ho,gh hE h1,k1,ay],k2⟩
  cases h
 |makeFunc f fs cs=>
  cases f with
  |func f=>
   simp only[bQ,ho]at h;split at h;.rename_i a b h1 h2;cases h;obtain⟨d,k1,k2⟩:=sQ hE h1;obtain⟨e,k3,k4⟩:=sQ hE h2;exact⟨_,by simp only[ah,ho,k1,k3];rfl,by simp only[RT];exact⟨trivial,k2,k4⟩⟩
   cases h
  |_=>simp only[bQ,ho]at h;cases h
 |fieldAddr t x f=>
  simp only[bQ,ho]at h;split at h
  .rename_i fs sz z id off h1 h2;split at h
   .rename_i oo s ag h3;split at h;.rename_i h4;cases h;obtain⟨d,k1,k2⟩:=bE hE h2;cases d<;>simp only[RT]at k2;obtain⟨k3,rfl⟩:=k2;exact⟨_,by simp only[ah,ho,h1,k1,h3,h4,if_true];rfl,by simp only[RT];exact⟨k3,trivial⟩⟩
    cases h
   cases h
  .rename_i fs sz z k l i off h1 h2;split at h
   .rename_i oo s ag h3;split at h;.rename_i h4;cases h;obtain⟨d,k1,k2⟩:=bE hE h2;cases d<;>simp only[RT]at k2;obtain⟨k3,rfl,rfl,k4⟩:=k2;exact⟨_,by simp only[ah,ho,h1,k1,h3,h4,if_true];rfl,by simp only[RT];exact⟨k3,trivial,trivial,k4⟩⟩
    cases h
   cases h
  cases h
 |field t x f=>
  simp only[bQ,ho]at h;split at h
  .rename_i fs sz z l h1 h2;split at h;.rename_i off s ag h3;simp only[af,az]at h;obtain⟨w,h4,rfl,-⟩:=h;obtain⟨d,k1,k2⟩:=bE hE h2;cases d<;>simp only[RT]at k2;obtain⟨r,k3,k4⟩:=rO k2 h4;exact⟨r,by simp only[ah,ho,h1,k1,h3,k3,ay],k4⟩
   cases h
  cases h
 |indexAddr t x i=>
  simp only[bQ,ho]at h;split at h
  .rename_i e s lR ag sz z k l ap n h1 h2 h3;split at h
   .rename_i hs;simp only[dX]at hs;cases h;simp only[af]at h2;obtain⟨u,h6,h7⟩:=h2;obtain⟨d,k1,k2⟩:=bE hE h6;have k3:=cZ (tt:=tt) (t:=t) k2;rw[h7]at k3;cases d<;>simp only[RT]at k3;obtain⟨k3,-⟩:=k3;have hlt:n.toNat<l.length:=by omega
    obtain⟨r,m1,m2,-⟩:=D5 k3 (bP hlt);exact⟨_,by simp only[ah,ho,h1,k1,qE hE h3,hc.1,if_true,m1,(ru m2).trans hs];rfl,by simp only[RT];exact⟨k3,trivial,trivial,hlt⟩⟩
   cases h
  .rename_i k s ag sz z id off n h1 h2 h3;split at h;.rename_i h4;cases h;simp only[af]at h2;obtain⟨u,h6,h7⟩:=h2;obtain⟨d,k1,k2⟩:=bE hE h6;have k3:=cZ (tt:=tt) (t:=t) k2;rw[h7]at k3;cases d<;>simp only[RT]at k3;obtain⟨k5,rfl⟩:=k3;exact⟨_,by simp only[ah,ho,h1,k1,qE hE h3,h4,and_self,if_true];rfl,by simp only[RT];exact⟨k5,trivial⟩⟩
   cases h
  .rename_i k s ag sz z e l j off n h1 h2 h3;split at h;.rename_i h4;cases h;simp only[af]at h2;obtain⟨u,h6,h7⟩:=h2;obtain⟨d,k1,k2⟩:=bE hE h6;have k3:=cZ (tt:=tt) (t:=t) k2;rw[h7]at k3;cases d<;>simp only[RT]at k3;obtain⟨k5,rfl,rfl,k6⟩:=k3;exact⟨_,by simp only[ah,ho,h1,k1,qE hE h3,h4,and_self,if_true];rfl,by simp only[RT];exact⟨k5,trivial,trivial,k6⟩⟩
   cases h
  cases h
 |index t x i=>
  simp only[bQ,ho]at h;split at h
  .rename_i k s ag sz z l n h1 h2 h3;split at h;.rename_i h5;simp only[af,az]at h;obtain⟨w,h4,rfl,-⟩:=h;obtain⟨d,k1,k2⟩:=bE hE h2;cases d<;>simp only[RT]at k2;obtain⟨r,k3,k4⟩:=rO k2 h4;exact⟨r,by simp only[ah,ho,h1,k1,qE hE h3,h5,and_self,if_true,k3,ay],k4⟩
   cases h
  cases h
 |extract t i=>
  simp only[bQ,ho]at h;split at h;.rename_i l h1;simp only[af,az]at h;obtain⟨w,h4,rfl,-⟩:=h;obtain⟨d,k1,k2⟩:=bE hE h1;cases d<;>simp only[RT]at k2;obtain⟨r,k3,k4⟩:=vB k2 h4;exact⟨r,by simp only[ah,ho,k1,k3,ay],cZ k4⟩
  cases h
 |call cl=>
  obtain⟨callee,args,argTypes⟩:=cl;cases callee with
  |builtin b=>
   simp only[bQ,ho]at h;split at h
   .rename_i x t ha ht;split at h;.rename_i e s lR ag sz z k l ap h1 h2;cases h;simp only[af]at h2;obtain⟨u,h6,h7⟩:=h2;obtain⟨d,k1,k2⟩:=bE hE h6;have k3:=cZ (tt:=tt) (t:=t) k2;rw[h7]at k3;cases d<;>simp only[RT]at k3;exact⟨_,by simp only[ah,ho,ha,ht,h1,k1];rfl,by simp only[RT];rw[kN k3.1]⟩
    .rename_i n s ag sz z h1;cases h;exact⟨_,by simp only[ah,ho,ha,ht,h1];rfl,by simp only[RT]⟩
    .rename_i w h2 hn2;simp only[af,az]at h h2;obtain⟨r,h4,rfl,-⟩:=h;obtain⟨u,h6,h7⟩:=h2;obtain⟨d,k1,k2⟩:=bE hE h6;have k3:=cZ (tt:=tt) (t:=t) k2;rw[h7]at k3;cases d<;>simp only[RT]at k3;subst k3;obtain⟨d,k5,k6⟩:=vu (ι:=ι) (S:=S) h4;exact⟨d,by simp only[ah,ho,ha,ht,k1,k5,ay],k6⟩
    cases h
   .split at h;.rename_i vs h1;simp only[af,az]at h;obtain⟨r,h4,rfl,-⟩:=h;simp only[qO]at h1;obtain⟨us,h5,h6⟩:=h1;obtain⟨ds,k1,k2⟩:=sQ hE h5;obtain⟨d,k5,k6⟩:=vu (ι:=ι) (S:=S) h4;exact⟨d,by simp only[ah,ho,k1,cn,xG k2 h6,k5,ay],k6⟩
    cases h
   .split at h;.rename_i vs h1;simp only[af,az]at h;obtain⟨r,h4,rfl,-⟩:=h;simp only[qO]at h1;obtain⟨us,h5,h6⟩:=h1;obtain⟨ds,k1,k2⟩:=sQ hE h5;obtain⟨d,k5,k6⟩:=vu (ι:=ι) (S:=S) h4;exact⟨d,by simp only[ah,ho,k1,cn,xG k2 h6,k5,ay],k6⟩
    cases h
   cases h
  |_=>simp only[bQ,ho]at h;cases h
 |_=>simp only[bQ,ho]at h;cases h
end Go.Tv
