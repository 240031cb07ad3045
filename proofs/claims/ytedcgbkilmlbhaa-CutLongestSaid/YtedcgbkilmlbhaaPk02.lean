import Derived.Test.YtedcgbkilmlbhaaPk01
namespace Go.Tv
open Go Go.Di
def TV.cells:TV->List TV
 |.agg l=>l
 |v=>[v]
def TV.known:TV->Bool
 |.unk=>false
 |_=>true
def TV.D4:TV->Bool
 |.unk|.tup _=>false
 |_=>true
def tM:DV->TV
 |.val v=>.val v
 |.sl [] none ⟨true,some true⟩=>.au
 |_=>.unk
def Zc:DV->TV
 |.agg l=>.agg (l.map tM)
 |.fn f [] []=>.fn f [] []
 |d=>tM d
inductive TB where
 |none
 |cells (l:List TV)
 |own (e s:Nat)
 |map (kt:TT) (l:List kt.den)
 |rows (t:TT) (e:Nat) (l:List t.den) (z:Bool)
 |loop
instance:Inhabited TB:=⟨.none⟩
section
variable (P:Program) (ty:fP) (tt:TypeId->Option TT)
def fM(te:List TV):Operand->Option TV
 |.tmp t=>some (te.getD t .unk)
 |.const v=>(BP v).map Zc
 |.func f=>some (.fn f [] [])
 |.global _=>none
def lV(te:List TV):List Operand->Option (List TV)
 |[]=>some []
 |x::l=>match fM te x,lV te l with
  |some d,some r=>some (d::r)
  |_,_=>none
def AP(te:List TV):List (Nat×Operand)->Option (List (Nat×TV))
 |[]=>some []
 |(i,x)::l=>match fM te x,AP te l with
  |some d,some r=>some ((i,d)::r)
  |_,_=>none
def iY:List TV->Option (List Value)
 |[]=>some []
 |.val v::l=>(iY l).map (v::·)
 |_=>none
def iL:TV->Option Value
 |.val v=>some v
 |.agg l=>(iY l).map λr=>.agg r.toArray
 |_=>none
def yV:List TV->Option (List Value)
 |[]=>some []
 |d::l=>match iL d,yV l with
  |some v,some r=>some (v::r)
  |_,_=>none
def H8(te:List TV)(x:Operand):Option Int:=
 match fM te x with
 |some (.val (.int _ n))=>some n
 |_=>none
def fO(t:TypeId)(v:TV):TV:=
 match v with
 |.au=>match tt t with
  |some (.sl e)=>.sl e [] .full
  |_=>.au
 |v=>v
def adr(l:List TV)(off n:Nat):Option (List TV):=if off+n<=l.length then some ((l.drop off).take n)else none
def MO(l:List TV)(off:Nat)(cs:List TV):Option (List TV):=if off+cs.length<=l.length then some (l.take off++cs++l.drop (off+cs.length))else none
def wX(agg:Bool)(size:Nat)(l:List TV)(off:Nat):Option TV:=if agg then(adr l off size).map .agg else l[off]?
def Kv(place:Nat->Option (Nat×Nat))(cs:List TV):List (Nat×TV)->Option (List TV)
 |[]=>some cs
 |(i,v)::r=>match place i with
  |none=>none
  |some (off,size)=>if v.known&&v.cells.length==size then match MO cs off v.cells with
    |some lG=>Kv place lG r
    |none=>none
   else none
def xH:Option DV->Option TV
 |some (.val v)=>some (.val v)
 |_=>none
def D1(t:TT)(i:Nat):List (Nat×TV)->Option (List t.den)
 |[]=>some []
 |(j,v)::r=>if j==i&&v.D4 then match t.of v.cells,D1 t (i+1) r with
   |some (x,[]),some l=>some (x::l)
   |_,_=>none
  else none
def Ux(t:Bool):Option TV->Option TV->Option TV
 |some (.val (.bool x)),some (.val (.bool y))=>some (.val (.bool (bif t then x else y)))
 |some (.val (.int k x)),some (.val (.int k' y))=>if k'=k then some (.val (.int k (bif t then x else y)))else none
 |a,b=>match t with
  |true=>a
  |false=>b
def D5(te:List TV):Option Operand->Option (Option Int)
 |none=>some none
 |some x=>(H8 te x).map some
def aiE(o:Option Int)(eP:Nat):Prop:=
 match o with
 |none=>True
 |some n=>0<=n/\n<=(eP:Int)
def Vh(t:TT)(l:List t.den)(lo hi mx:Option Int):TV×Prop:=
 match mx with
 |none=>match hi with
  |none=>match lo with
   |none=>(.sl t l .no,True)
   |some a=>(.sl t (l.drop a.toNat) .no,0<=a/\a<=(l.length:Int))
  |some h=>match lo with
   |none=>(.sl t (l.take h.toNat) .no,0<=h/\h<=(l.length:Int))
   |some a=>(.sl t ((l.take h.toNat).drop a.toNat) .no,0<=a/\a<=h/\h<=(l.length:Int))
 |some m=>match hi with
  |none=>(.unk,False)
  |some h=>match lo with
   |none=>(.sl t (l.take h.toNat) .full,0<=h/\h=m/\h<=(l.length:Int))
   |some a=>(.sl t ((l.take h.toNat).drop a.toNat) .full,0<=a/\a<=h/\h=m/\h<=(l.length:Int))
def bP(te:List TV)(tS:List TB)(o:Oper):Option (TV×Prop):=
 match o.op with
 |.move x|.assign x=>(fM te x).map λv=>(fO tt o.type v,True)
 |.pick c a b=>match fM te c with
  |some (.val (.bool t))=>(Ux t (fM te a) (fM te b)).map (·,True)
  |_=>none
 |.build t ps=>match ty t,AP te ps.toList with
  |some ⟨.struct fs,_,some z⟩,some l=>(Kv (λi=>(fs[i]?).map λf=>(f.1,f.2.1)) (z.map tM) l).map λcs=>(.agg cs,True)
  |some ⟨.array _ s _,_,some z⟩,some l=>(Kv (λi=>some (i*s,s)) (z.map tM) l).map λcs=>(.agg cs,True)
  |_,_=>none
 |.buildSlice t n ps=>match ty t,AP te ps.toList,tt t with
  |some ⟨.slice e s _ agg,_,_⟩,some l,some (.sl k)=>match ty e with
   |some ⟨_,_,some z⟩=>if decide (0<s)&&decide (n*s<=16777216)&&l.length==n&&z.length==s&&k.size==s&&k.agg==agg&&(agg||s==1)&&ty.h o !=1 then
     (D1 k 0 l).map λl=>(.sl k l .full,True)
    else none
   |_=>none
  |_,_,_=>none
 |.load t a=>match ty t,fM te a with
  |some d,some (.ptr id off)=>match tS[id]? with
   |some (.cells l)=>(wX d.k.isAgg d.size l off).map λv=>(fO tt t v,True)
   |_=>none
  |some d,some (.fF e l i off)=>(wX d.k.isAgg d.size (e.cells (l.getD i e.dft)) off).map λv=>(fO tt t v,True)
  |_,_=>none
 |.nilCheck x=>match fM te x with
  |some (.ptr id off)=>some (.ptr id off,True)
  |_=>none
 |.binOp op t x y _=>match(fM te x).bind iL,(fM te y).bind iL with
  |some a,some b=>(xH (jC P (do eqGuard op t x y a b;binOp op t a b))).map (·,True)
  |_,_=>none
 |.unOp op _ x=>match(fM te x).bind iL with
  |some a=>(xH (jC P (Op.unary op a))).map (·,True)
  |none=>none
 |.convert s d x=>match(fM te x).bind iL with
  |some a=>(xH (jC P (Go.convert s d a))).map (·,True)
  |none=>none
 |.makeFunc (.func f) fs cs=>match lV te fs.toList,lV te cs.toList with
  |some a,some b=>some (.fn f a b,True)
  |_,_=>none
 |.slice t x lo hi mx=>match ty t,(fM te x).map (fO tt t),D5 te lo,D5 te hi,D5 te mx with
  |some ⟨.slice _ s _ _,_,_⟩,some (.sl k l _),some lo,some hi,some mx=>if k.size==s then some (Vh k l lo hi mx)else none
  |_,_,_,_,_=>none
 |.fieldAddr t x f=>match ty t,fM te x with
  |some ⟨.struct fs,_,_⟩,some (.ptr id off)=>match fs[f]? with
   |some (o,s,_)=>if 0<s then some (.ptr id (off+o),True)else none
   |none=>none
  |some ⟨.struct fs,_,_⟩,some (.fF k l i off)=>match fs[f]? with
   |some (o,s,_)=>if 0<s then some (.fF k l i (off+o),True)else none
   |none=>none
  |_,_=>none
 |.field t x f=>match ty t,fM te x with
  |some ⟨.struct fs,_,_⟩,some (.agg l)=>match fs[f]? with
   |some (off,s,agg)=>(wX agg s l off).map (·,True)
   |none=>none
  |_,_=>none
 |.indexAddr t x i=>match ty t,(fM te x).map (fO tt t),H8 te i with
  |some ⟨.slice _ s _ _,_,_⟩,some (.sl k l _),some n=>if k.size==s then some (.fF k l n.toNat 0,0<=n/\n<(l.length:Int))else none
  |some ⟨.array k s _,_,_⟩,some (.ptr id off),some n=>if 0<=n/\n.toNat<k then some (.ptr id (off+n.toNat*s),True)else none
  |some ⟨.array k s _,_,_⟩,some (.fF e l j off),some n=>if 0<=n/\n.toNat<k then some (.fF e l j (off+n.toNat*s),True)else none
  |_,_,_=>none
 |.index t x i=>match ty t,fM te x,H8 te i with
  |some ⟨.array k s agg,_,_⟩,some (.agg l),some n=>if 0<=n/\n.toNat<k then(wX agg s l (n.toNat*s)).map (·,True)else none
  |_,_,_=>none
 |.extract t i=>match fM te t with
  |some (.tup l)=>(l[i]?).map λv=>(fO tt o.type v,True)
  |_=>none
 |.call {callee:=.builtin b,args,argTypes}=>match b,args.toList,argTypes.toList with
  |.len,[x],[t]=>match ty t,(fM te x).map (fO tt t)with
   |some ⟨.slice _ _ _ _,_,_⟩,some (.sl _ l _)=>some (.val (.int .i64 (l.length:Nat)),True)
   |some ⟨.array n _ _,_,_⟩,_=>some (.val (.int .i64 n),True)
   |_,some (.val v)=>(xH (jC P (Builtin.len_ #[t] o.type #[v]))).map (·,True)
   |_,_=>none
  |.min,xs,_=>match(lV te xs).bind yV with
   |some vs=>(xH (jC P (Builtin.min_ argTypes o.type vs.toArray))).map (·,True)
   |none=>none
  |.max,xs,_=>match(lV te xs).bind yV with
   |some vs=>(xH (jC P (Builtin.max_ argTypes o.type vs.toArray))).map (·,True)
   |none=>none
  |_,_,_=>none
 |_=>none
end
section
variable {P:Program} {ty:fP} {tt:TypeId->Option TT} {ι:lq} {S:ai} {te:List TV} {env:List DV} {tS:List TB}
theorem uX{v:TV}{d:DV}(hk:v.known=true)(h:RT ι S v d):cQ ι S v.cells d.cells:=by cases v<;>cases d<;>simp only[RT]at h<;>first|(cases hk;done)|exact h|(refine kT ?_;simp only[RT];exact h)
theorem Vk(d:DV):RT ι S (tM d) d:=by unfold tM;split<;>simp[RT]
theorem vG:∀l:List DV,cQ ι S (l.map tM) l
 |[]=>bL
 |d::l=>aQ (Vk d) (vG l)
theorem af4(d:DV):RT ι S (Zc d) d:=by
 unfold Zc;split;.simp only[RT];exact vG _
 .simp only[RT,cQ,and_true]
 exact Vk _
theorem bD(h:cQ ι S te env){x:Operand}{v:TV}(hx:fM te x=some v):∃d,jy env x=some d/\RT ι S v d:=by
 cases x with
 |tmp t=>cases hx;exact⟨_,rfl,Eg h t⟩
 |const u=>simp only[fM,af]at hx;obtain⟨d,h1,rfl⟩:=hx;exact⟨d,h1,af4 d⟩
 |func f=>cases hx;exact⟨_,rfl,by simp only[RT,cQ,and_true]⟩
 |global g=>cases hx
theorem s6(h:cQ ι S te env):∀{xs:List Operand}{vs:List TV},lV te xs=some vs->∃ds,evs (jy env) xs=some ds/\cQ ι S vs ds
 |[],_,hx=>by cases hx;exact⟨[],rfl,bL⟩
 |x::l,vs,hx=>by
  simp only[lV]at hx;split at hx;.rename_i d r h1 h2;cases hx;obtain⟨d',k1,k2⟩:=bD h h1;obtain⟨ds,k3,k4⟩:=s6 h h2;exact⟨d'::ds,by simp only[evs,k1,k3],aQ k2 k4⟩
  cases hx
def D9(ι:lq)(S:ai):List (Nat×TV)->List (Nat×DV)->Prop
 |[],[]=>True
 |(i,v)::l,(j,d)::m=>(j=i/\RT ι S v d)/\D9 ι S l m
 |_,_=>False
theorem sE(h:cQ ι S te env):∀{xs:List (Nat×Operand)}{vs:List (Nat×TV)},AP te xs=some vs->∃ds,kI (jy env) xs=some ds/\D9 ι S vs ds
 |[],_,hx=>by cases hx;exact⟨[],rfl,trivial⟩
 |(i,x)::l,vs,hx=>by
  simp only[AP]at hx;split at hx;.rename_i d r h1 h2;cases hx;obtain⟨d',k1,k2⟩:=bD h h1;obtain⟨ds,k3,k4⟩:=sE h h2;exact⟨(i,d')::ds,by simp only[kI,k1,k3],⟨rfl,k2⟩,k4⟩
  cases hx
theorem B5:∀{l:List TV}{m:List DV}{vs:List Value},cQ ι S l m->iY l=some vs->s4 m=some vs
 |[],m,vs,h,hx=>by rw[aP h];exact hx
 |a::l,m,vs,h,hx=>by
  obtain⟨d,m',rfl,h1,h2⟩:=ak h;unfold iY at hx;split at hx;.rename_i e;cases e
  .rename_i v l' e;cases e;simp only[af]at hx;obtain⟨r,h3,rfl⟩:=hx;cases d<;>simp only[RT]at h1;subst h1;simp only[s4,B5 h2 h3,av]
  cases hx
theorem GC{v:TV}{d:DV}{u:Value}(h:RT ι S v d)(hx:iL v=some u):BL d=some u:=by
 unfold iL at hx;split at hx;.cases hx;cases d<;>simp only[RT]at h;subst h;rfl
 .simp only[af]at hx;obtain⟨r,h1,rfl⟩:=hx;cases d<;>simp only[RT]at h;simp only[BL,B5 h h1,av]
 cases hx
theorem xS:∀{l:List TV}{m:List DV}{vs:List Value},cQ ι S l m->yV l=some vs->uP m=some vs
 |[],m,vs,h,hx=>by rw[aP h];exact hx
 |a::l,m,vs,h,hx=>by
  obtain⟨d,m',rfl,h1,h2⟩:=ak h;simp only[yV]at hx;split at hx;.rename_i v r e1 e2;cases hx;simp only[uP,GC h1 e1,xS h2 e2]
  cases hx
theorem gn(h:cQ ι S te env){x:Operand}{u:Value}(hx:(fM te x).bind iL=some u):valOf (jy env) x=some u:=by
 cases h1:fM te x with
 |none=>rw[h1]at hx;cases hx
 |some v=>rw[h1]at hx;obtain⟨d,h2,h3⟩:=bD h h1;simp only[valOf,h2,cq];exact GC h3 hx
theorem qM(h:cQ ι S te env){x:Operand}{n:Int}(hx:H8 te x=some n):intOf (jy env) x=some n:=by
 unfold H8 at hx;split at hx;.rename_i k m h1;cases hx;obtain⟨d,h2,h3⟩:=bD h h1;cases d<;>simp only[RT]at h3;subst h3;simp only[intOf,h2]
 cases hx
theorem dg{t:TypeId}{v:TV}{d:DV}(h:RT ι S v d):RT ι S (fO tt t v) d:=by
 unfold fO;split
 .split;.cases d<;>simp only[RT]at h;obtain⟨rfl,rfl,rfl⟩:=h;simp only[RT,fS,pQ,and_self]
  exact h
 exact h
theorem aa8{l:List TV}{m:List DV}(h:cQ ι S l m){off n:Nat}{r:List TV}(hx:adr l off n=some r):∃r',Uh m off n=some r'/\cQ ι S r r':=by
 unfold adr at hx;split at hx;.cases hx;rename_i hle;exact⟨_,if_pos (by rw[iq h];exact hle),Ef _ (Eh _ h)⟩
 cases hx
theorem I5{l:List TV}{m:List DV}(h:cQ ι S l m){cs:List TV}{ds:List DV}(hc:cQ ι S cs ds){off:Nat}{r:List TV}(hx:MO l off cs=some r):∃r',wP m off ds=some r'/\cQ ι S r r':=by
 unfold MO at hx;split at hx;.cases hx;rename_i hle;refine⟨_,if_pos (by rw[iq h,iq hc];exact hle),eN (eN (Ef _ h) hc) ?_⟩;rw[iq hc];exact Eh _ h
 cases hx
theorem si{l:List TV}{m:List DV}(h:cQ ι S l m){agg:Bool}{size off:Nat}{r:TV}(hx:wX agg size l off=some r):∃r',pS agg size m off=some r'/\RT ι S r r':=by
 unfold wX at hx;split at hx;.rename_i ha;simp only[af]at hx;obtain⟨r1,h1,rfl⟩:=hx;obtain⟨r',h2,h3⟩:=aa8 h h1;exact⟨.agg r',by simp only[pS,ha,if_true,h2,av],by simp only[RT];exact h3⟩
 rename_i ha;obtain⟨d,h1,h2⟩:=vH h hx;exact⟨d,by simp only[pS,ha,h1];rfl,h2⟩
theorem EB{place:Nat->Option (Nat×Nat)}:∀{ps:List (Nat×TV)}{qs:List (Nat×DV)}{l:List TV}{m:List DV}{r:List TV},D9 ι S ps qs->cQ ι S l m->Kv place l ps=some r->∃r',lJ place m qs=some r'/\cQ ι S r r'
 |[],[],l,m,r,_,h,hx=>by cases hx;exact⟨m,rfl,h⟩
 |(i,v)::ps,(j,d)::qs,l,m,r,hp,h,hx=>by
  obtain⟨⟨rfl,hv⟩,hp⟩:=hp;simp only[Kv]at hx;split at hx;.cases hx
  rename_i off size BF;split at hx
  .rename_i hc;simp only[aA,dU]at hc;have ov:=uX hc.1 hv;split at hx;.rename_i lG pM;obtain⟨m',h1,h2⟩:=I5 h ov pM;obtain⟨r',h3,h4⟩:=EB hp h2 hx;refine⟨r',?_,h4⟩;simp only[lJ,BF,iq ov,hc.2,if_true,h1,h3]
   cases hx
  cases hx
theorem vD{o:Option DV}{v:TV}(h:xH o=some v):∃d,o=some d/\RT ι S v d:=by
 unfold xH at h;split at h;.cases h;exact⟨_,rfl,by simp only[RT]⟩
 cases h
theorem Xf{t:Bool}{a b:Option TV}{v:TV}{a' b':Option DV}(ha:∀v,a=some v->∃d,a'=some d/\RT ι S v d)(hb:∀v,b=some v->∃d,b'=some d/\RT ι S v d)(h:Ux t a b=some v):∃d,(if t then a' else b')=some d/\RT ι S v d:=by
 unfold Ux at h;split at h
 .cases h;obtain⟨d,h1,h2⟩:=ha _ rfl;obtain⟨e,h3,h4⟩:=hb _ rfl;cases t;.exact⟨e,h3,h4⟩
  exact⟨d,h1,h2⟩
 .split at h
  .rename_i hk;subst hk;cases h;obtain⟨d,h1,h2⟩:=ha _ rfl;obtain⟨e,h3,h4⟩:=hb _ rfl;cases t;.exact⟨e,h3,h4⟩
   exact⟨d,h1,h2⟩
  cases h
 split at h;.exact ha _ h
 exact hb _ h
end
end Go.Tv
namespace Go.Tv
open Go Go.Di
variable {P:Program} {ty:fP} {tt:TypeId->Option TT} {ι:lq} {S:ai} {te:List TV} {env:List DV} {tS:List TB} {aI:bS} {call:bt} {yf:ew} {o:Oper} {aD:Nat} {v:TV} {c:Prop}
def IF(ι:lq)(S:ai)(tS:List TB):Prop:=∀k l,tS[k]? =some (.cells l)->∃k' ds,ι k=some k'/\S[k']? =some (.cells ds)/\cQ ι S l ds
theorem aaF(hE:cQ ι S te env)(hP:IF ι S tS){t:TypeId}{a:Operand}(ho:o.op=.load t a)(h:bP P ty tt te tS o=some (v,c)):∃d,ah P ty aI call yf (jy env) o S aD=some (d,S)/\RT ι S v d:=by
 simp only[bP,ho]at h;split at h
 .rename_i td id off h1 h2;split at h;.rename_i l h3;simp only[af,ay]at h;obtain⟨w,h4,rfl,-⟩:=h;obtain⟨d,k1,k2⟩:=bD hE h2;obtain⟨jd,ds,k3,k4,k5⟩:=hP _ _ h3;cases d<;>simp only[RT]at k2;obtain⟨k6,rfl⟩:=k2;rw[k3]at k6;cases k6;obtain⟨r,k7,k8⟩:=si k5 h4;exact⟨r,by simp only[ah,ho,k1,lH,h1,k4,k7,av],dg k8⟩
  cases h
 .rename_i td e l i off h1 h2;simp only[af,ay]at h;obtain⟨w,h4,rfl,-⟩:=h;obtain⟨d,k1,k2⟩:=bD hE h2;cases d<;>simp only[RT]at k2;obtain⟨k3,rfl,rfl,k4⟩:=k2;obtain⟨r,m1,m2,-⟩:=Ei k3 (bQ k4);rename_i j j';have hg:l.getD j e.dft=l[j]:=by simp[aR,k4]
  rw[hg]at h4;obtain⟨r',m3,m4⟩:=si (sx (ι:=ι) (S:=S) m2) h4;exact⟨r',by simp only[ah,ho,k1,lH,h1,m1,m3,av],dg m4⟩
 cases h
def Gy(t:TT):Nat->List (Nat×DV)->List t.den->Prop
 |_,[],[]=>True
 |i,(j,d)::qs,x::l=>(j=i/\CR t x d.strip.cells)/\Gy t (i+1) qs l
 |_,_,_=>False
theorem L8{v:TV}{d:DV}(hk:v.D4=true)(h:RT ι S v d):d.strip.cells=d.cells.map DV.aM:=by cases v<;>cases d<;>simp only[RT]at h<;>first|(cases hk;done)|rfl
theorem LD{v:TV}(hk:v.D4=true):v.known=true:=by cases v<;>first|rfl|cases hk
theorem EE{t:TT}:∀{ps:List (Nat×TV)}{qs:List (Nat×DV)}{i:Nat}{l:List t.den},D9 ι S ps qs->D1 t i ps=some l->Gy t i qs l/\l.length=ps.length
 |[],[],i,l,_,h=>by cases h;exact⟨trivial,rfl⟩
 |(j,v)::ps,(j',d)::qs,i,l,hp,h=>by
  obtain⟨⟨rfl,hv⟩,hp⟩:=hp;simp only[D1]at h;split at h
  .rename_i hc;simp only[aA,dU]at hc;obtain⟨rfl,hk⟩:=hc;split at h;.rename_i x l' h1 h2;cases h;obtain⟨cs,m',e1,e2,e3⟩:=Gl h1 (uX (LD hk) hv);rw[aP e3,cV]at e1;obtain⟨k1,k2⟩:=EE hp h2;exact⟨⟨⟨rfl,by rw[L8 hk hv,e1];exact e2⟩,k1⟩,by simp[k2]⟩
   cases h
  cases h
def jJ(qs:List (Nat×DV)):List DV:=qs.flatMap λq=>q.2.strip.cells
theorem yq{t:TT}{s:Nat}(hs:t.size=s):∀{qs:List (Nat×DV)}{i:Nat}{l:List t.den}{pre post:List DV},Gy t i qs l->pre.length=i*s->post.length=qs.length*s->
  lJ (λi=>some (i*s,s)) (pre++post) (qs.map λ(i,v)=>(i,v.strip))=some (pre++jJ qs)
 |[],i,[],pre,post,_,hp,hq=>by have:post=[]:=fA (by simpa using hq);subst this;simp[lJ,jJ]
 |(j,d)::qs,i,x::l,pre,post,h,hp,hq=>by
  obtain⟨⟨rfl,hc⟩,h⟩:=h;have hl:d.strip.cells.length=s:=(rH hc).trans hs;have To:post.length=qs.length*s+s:=by rw[hq,dw,j3,Nat.one_mul]
  have pM:wP (pre++post) (j*s) d.strip.cells=some ((pre++d.strip.cells)++post.drop s):=by unfold wP;rw[if_pos (by rw[cD,hp,hl];omega),hl,<-hp,List.take_left' rfl,zg,j5 (by omega)];simp
  simp only[aV,lJ,hl,if_true,pM];rw[yq hs h (by rw[cD,hp,hl,j3,Nat.one_mul]) (by rw[List.length_drop,To];omega)];simp[jJ]
theorem row_one{t:TT}{x:t.den}{cs:List DV}(h:CR t x cs)(ha:t.agg=false):CR t x (cs.getD 0 bE).cells/\DK t.agg (cs.getD 0 bE):=by
 cases t with
 |unit|pair=>cases ha
 |sl t=>simp only[CR]at h;obtain⟨rows,f,rfl,h⟩:=h;exact⟨by simp only[CR,List.getD_cons_zero,DV.cells];exact⟨rows,f,rfl,h⟩,by simp[DK,TT.agg]⟩
 |_=>simp only[CR]at h;subst h;exact⟨by simp only[CR,List.getD_cons_zero,DV.cells],by simp[DK,TT.agg]⟩
theorem Ca{s:Nat}{agg:Bool}{c r:List DV}{n:Nat}(hc:c.length=s):rowsOf s agg (c++r) (n+1)=(if agg then .agg c else(c++r).getD 0 bE)::rowsOf s agg r n:=by
 unfold rowsOf;rw[List.range_succ_eq_map,aV,kW];congr 1
 .unfold rowOf;split;.rw[Nat.zero_mul,nL,List.take_left' hc]
  rw[Nat.zero_mul]
 refine List.map_congr_left λi _=>?_;simp only[Function.comp,rowOf,Nat.succ_eq_add_one,j3,Nat.one_mul];rw[mz (i*s) s,<-hc,zg,j5 (Nat.le_add_right _ _),qX,gQ,aR,aR,iu (Nat.le_add_right _ _),qX]
theorem EW{t:TT}{s:Nat}(hs:t.size=s)(h1:t.agg=true\/s=1):∀{qs:List (Nat×DV)}{i:Nat}{l:List t.den},Gy t i qs l->fS (CR t) t.agg l (rowsOf s t.agg (jJ qs) l.length)
 |[],_,[],_=>by simp[rowsOf,fS]
 |(j,d)::qs,i,x::l,h=>by
  obtain⟨⟨rfl,hc⟩,h⟩:=h;have hl:d.strip.cells.length=s:=(rH hc).trans hs;have e:jJ ((j,d)::qs)=d.strip.cells++jJ qs:=by simp[jJ]
  rw[e,dw,Ca hl];refine⟨?_,EW hs h1 h⟩;cases ha:t.agg with
  |true=>exact⟨hc,by simp[DK]⟩
  |false=>
   have:=row_one hc ha;rw[ha]at this;have h2:0<d.strip.cells.length:=by rw[hl];rcases h1 with h1|h1<;>first|(rw[ha]at h1;cases h1;done)|omega
   have e2:(d.strip.cells++jJ qs).getD 0 bE=d.strip.cells.getD 0 bE:=by simp only[aR,er h2]
   simp only[aG,if_false];rw[e2];exact this
theorem x8{t:TT}:∀{qs:List (Nat×DV)}{i:Nat}{l:List t.den},Gy t i qs l->(jJ qs).all DV.bY=true
 |[],_,[],_=>rfl
 |(j,d)::qs,i,x::l,h=>by
  obtain⟨⟨rfl,hc⟩,h⟩:=h;have e:jJ ((j,d)::qs)=d.strip.cells++jJ qs:=by simp[jJ]
  rw[e,o6,vS hc,x8 h];rfl
theorem Bh:∀{ps:List (Nat×TV)}{qs:List (Nat×DV)},D9 ι S ps qs->qs.length=ps.length
 |[],[],_=>rfl
 |_::ps,_::qs,h=>by simp[Bh h.2]
theorem F6(hE:cQ ι S te env){t:TypeId}{n:Nat}{ps:Array (Nat×Operand)}(ho:o.op=.buildSlice t n ps)(h:bP P ty tt te tS o=some (v,c)):∃d,ah P ty aI call yf (jy env) o S aD=some (d,S)/\RT ι S v d:=by
 simp only[bP,ho]at h;split at h
 .rename_i e s lU agg sz z0 l k h1 h2 h3;split at h
  .rename_i k0 sz' z h4;split at h
   .rename_i hc;simp only[aA,dU,gP,cC]at hc;obtain⟨⟨⟨⟨⟨⟨⟨c1,c2⟩,c3⟩,c4⟩,c5⟩,c6⟩,c7⟩,c8⟩:=hc;have c8:ty.h o≠1:=by simpa using c8
    simp only[af,ay]at h;obtain⟨w,h5,rfl,-⟩:=h;obtain⟨ds,k1,k2⟩:=sE hE h2;obtain⟨k3,k4⟩:=EE k2 h5;have hlen:ds.length=n:=by rw[Bh k2,c3]
    have ac2:((List.replicate n z).flatten).length=ds.length*s:=by rw[hlen,List.length_flatten,List.map_replicate,c4,List.sum_replicate_nat]
    have hf:=yq (pre:=[]) (post:=(List.replicate n z).flatten) c5 k3 (by simp) ac2;rw[gQ,gQ]at hf;have hn:w.length=n:=by rw[k4,c3]
    have hr:=EW c5 (by rw[c6];exact c7) k3;rw[c6,hn]at hr;have c7':(agg||s==1)=true:=by simpa using c7
    refine⟨.sl (rowsOf s agg (jJ ds) n) none ⟨true,some false⟩,?_,?_⟩;.simp only[ah,ho,h1,k1,h4,js c1,js c2,fV,if_true,hf,x8 k3,c7',c8]
    simp only[RT,pQ,and_self,and_true];rw[c6];exact hr
   cases h
  cases h
 cases h
theorem Wx(hE:cQ ι S te env){t:TypeId}{x:Operand}{lo hi mx:Option Operand}(ho:o.op=.slice t x lo hi mx)(h:bP P ty tt te tS o=some (v,c))(hc:c):∃d,ah P ty aI call yf (jy env) o S aD=some (d,S)/\RT ι S v d:=by
 have hb:∀{y:Option Operand}{b:Option Int},D5 te y=some b->(y=none/\b=none)\/∃z n,y=some z/\b=some n/\intOf (jy env) z=some n:=by
  intro y b hy;cases y with
  |none=>cases hy;exact .inl ⟨rfl,rfl⟩
  |some z=>simp only[D5,af]at hy;obtain⟨n,h1,rfl⟩:=hy;exact .inr ⟨z,n,rfl,rfl,qM hE h1⟩
 simp only[bP,ho]at h;split at h
 .rename_i e s lU agg sz z0 k l ap lo' JO mx' h1 h2 h3 h4 h5;split at h
  .rename_i hs;simp only[dU]at hs;simp only[af]at h2;obtain⟨u,h6,h7⟩:=h2;obtain⟨d,k1,k2⟩:=bD hE h6;have k3:=dg (tt:=tt) (t:=t) k2;rw[h7]at k3;cases d<;>simp only[RT]at k3;rename_i rows tok f;obtain⟨k3,k4⟩:=k3;have hlen:=mI k3;have fN:(rows.all λr=>decide (r.cells.length=s))=true:=aT.2 λr hr=>js ((jQ k3 r hr).trans hs);simp only[aB]at h;rcases hb h3 with ⟨rfl,rfl⟩|⟨zl,nl,rfl,rfl,el⟩<;>rcases hb h4 with ⟨rfl,rfl⟩|⟨zh,nh,rfl,rfl,eh⟩<;>rcases hb h5 with ⟨rfl,rfl⟩|⟨zm,nm,rfl,rfl,em⟩<;>
    simp only[Vh,ay]at h<;>obtain⟨rfl,rfl⟩:=h
   .exact⟨_,by simp only[ah,ho,h1,k1,fN,iB,mw,sU,if_true,gr,aG,if_false,Option.isNone,Option.isSome,qO,mA,av];rfl,by simp only[RT,pQ,and_true,nL,fW];exact k3⟩
   .exact hc.elim
   .have a1:0<=nh/\nh.toNat<=rows.length:=⟨hc.1,by rw[hlen];omega⟩;exact⟨_,by simp only[ah,ho,h1,k1,fN,iB,eh,a1,mw,sU,if_true,gr,aG,if_false,Option.isNone,Option.isSome,qO,mA,av,and_self];rfl,by simp only[RT,pQ,and_true,nL];exact sB _ k3⟩
   .obtain⟨b1,rfl,b2⟩:=hc;have a1:0<=nh/\nh.toNat<=rows.length:=⟨b1,by rw[hlen];omega⟩;exact⟨_,by simp only[ah,ho,h1,k1,fN,iB,eh,em,a1,mw,sU,if_true,gr,aG,if_false,Option.isNone,Option.isSome,s8,av,and_self,aj];rfl,by simp only[RT,pQ,and_true,nL,vV];exact sB _ k3⟩
   .have a1:0<=nl/\nl.toNat<=rows.length:=⟨hc.1,by rw[hlen];omega⟩;exact⟨_,by simp only[ah,ho,h1,k1,fN,iB,el,a1,sU,if_true,gr,aG,if_false,Option.isNone,Option.isSome,qO,mA,av,and_self];rfl,by simp only[RT,pQ,and_true,fW];exact wB _ k3⟩
   .exact hc.elim
   .have a1:0<=nh/\nh.toNat<=rows.length:=⟨by omega,by rw[hlen];omega⟩;have a2:0<=nl/\nl.toNat<=nh.toNat:=⟨hc.1,by omega⟩;exact⟨_,by simp only[ah,ho,h1,k1,fN,iB,eh,el,a1,a2,sU,if_true,gr,aG,if_false,Option.isNone,Option.isSome,qO,mA,av,and_self];rfl,by simp only[RT,pQ,and_true];exact wB _ (sB _ k3)⟩
   obtain⟨b0,b1,rfl,b2⟩:=hc;have a1:0<=nh/\nh.toNat<=rows.length:=⟨by omega,by rw[hlen];omega⟩;have a2:0<=nl/\nl.toNat<=nh.toNat:=⟨b0,by omega⟩;exact⟨_,by simp only[ah,ho,h1,k1,fN,iB,eh,el,em,a1,a2,sU,if_true,gr,aG,if_false,Option.isNone,Option.isSome,s8,av,and_self,aj];rfl,by simp only[RT,pQ,and_true,vV];exact wB _ (sB _ k3)⟩
  cases h
 cases h
theorem Lc(hE:cQ ι S te env)(hP:IF ι S tS)(h:bP P ty tt te tS o=some (v,c))(hc:c):∃d,ah P ty aI call yf (jy env) o S aD=some (d,S)/\RT ι S v d:=by
 cases ho:o.op with
 |load t a=>exact aaF hE hP ho h
 |buildSlice t n ps=>exact F6 hE ho h
 |slice t x lo hi mx=>exact Wx hE ho h hc
 |move x|assign x=>simp only[bP,ho,af,ay]at h;obtain⟨u,h1,rfl,-⟩:=h;obtain⟨d,k1,k2⟩:=bD hE h1;exact⟨d,by simp only[ah,ho,k1,av],dg k2⟩
 |pick a b d=>
  simp only[bP,ho]at h;split at h;.rename_i t h1;simp only[af,ay]at h;obtain⟨u,h2,rfl,-⟩:=h;obtain⟨e,k1,k2⟩:=bD hE h1;cases e<;>simp only[RT]at k2;subst k2;obtain⟨e,k3,k4⟩:=Xf (λv h=>bD hE h) (λv h=>bD hE h) h2;exact⟨e,by simp only[ah,ho,k1,k3,av],k4⟩
  cases h
 |build t ps=>
  simp only[bP,ho]at h;split at h;.rename_i fs sz z l h1 h2;simp only[af,ay]at h;obtain⟨cs,h3,rfl,-⟩:=h;obtain⟨ds,k1,k2⟩:=sE hE h2;obtain⟨r,k3,k4⟩:=EB k2 (vG _) h3;exact⟨.agg r,by simp only[ah,ho,h1,k1,k3,av],by simp only[RT];exact k4⟩
  .rename_i n s agg sz z l h1 h2;simp only[af,ay]at h;obtain⟨cs,h3,rfl,-⟩:=h;obtain⟨ds,k1,k2⟩:=sE hE h2;obtain⟨r,k3,k4⟩:=EB k2 (vG _) h3;exact⟨.agg r,by simp only[ah,ho,h1,k1,k3,av],by simp only[RT];exact k4⟩
  cases h
 |nilCheck x=>
  simp only[bP,ho]at h;split at h;.rename_i id off h1;cases h;obtain⟨d,k1,k2⟩:=bD hE h1;cases d<;>simp only[RT]at k2;exact⟨_,by simp only[ah,ho,k1];rfl,by simp only[RT];exact k2⟩
  cases h
 |binOp op t x y u=>
  simp only[bP,ho]at h;split at h;.rename_i a b h1 h2;simp only[af,ay]at h;obtain⟨w,h3,rfl,-⟩:=h;obtain⟨d,k1,k2⟩:=vD (ι:=ι) (S:=S) h3;exact⟨d,by simp only[ah,ho,gn hE h1,gn hE h2,k1,av],k2⟩
  cases h
 |unOp op t x=>
  simp only[bP,ho]at h;split at h;.rename_i a h1;simp only[af,ay]at h;obtain⟨w,h3,rfl,-⟩:=h;obtain⟨d,k1,k2⟩:=vD (ι:=ι) (S:=S) h3;exact⟨d,by simp only[ah,ho,gn hE h1,k1,av],k2⟩
  cases h
 |convert s t x=>
  simp only[bP,ho]at h;split at h;.rename_i a h1;simp only[af,ay]at h;obtain⟨w,h3,rfl,-⟩:=h;obtain⟨d,k1,k2⟩:=vD (ι:=ι) (S:=S) h3;exact⟨d,by simp only[ah,ho,gn hE h1,k1,av],k2⟩
  cases h
 |makeFunc f fs cs=>
  cases f with
  |func f=>
   simp only[bP,ho]at h;split at h;.rename_i a b h1 h2;cases h;obtain⟨d,k1,k2⟩:=s6 hE h1;obtain⟨e,k3,k4⟩:=s6 hE h2;exact⟨_,by simp only[ah,ho,k1,k3];rfl,by simp only[RT];exact⟨trivial,k2,k4⟩⟩
   cases h
  |_=>simp only[bP,ho]at h;cases h
 |fieldAddr t x f=>
  simp only[bP,ho]at h;split at h
  .rename_i fs sz z id off h1 h2;split at h
   .rename_i oo s ag h3;split at h;.rename_i h4;cases h;obtain⟨d,k1,k2⟩:=bD hE h2;cases d<;>simp only[RT]at k2;obtain⟨k3,rfl⟩:=k2;exact⟨_,by simp only[ah,ho,h1,k1,h3,h4,if_true];rfl,by simp only[RT];exact⟨k3,trivial⟩⟩
    cases h
   cases h
  .rename_i fs sz z k l i off h1 h2;split at h
   .rename_i oo s ag h3;split at h;.rename_i h4;cases h;obtain⟨d,k1,k2⟩:=bD hE h2;cases d<;>simp only[RT]at k2;obtain⟨k3,rfl,rfl,k4⟩:=k2;exact⟨_,by simp only[ah,ho,h1,k1,h3,h4,if_true];rfl,by simp only[RT];exact⟨k3,trivial,trivial,k4⟩⟩
    cases h
   cases h
  cases h
 |field t x f=>
  simp only[bP,ho]at h;split at h
  .rename_i fs sz z l h1 h2;split at h;.rename_i off s ag h3;simp only[af,ay]at h;obtain⟨w,h4,rfl,-⟩:=h;obtain⟨d,k1,k2⟩:=bD hE h2;cases d<;>simp only[RT]at k2;obtain⟨r,k3,k4⟩:=si k2 h4;exact⟨r,by simp only[ah,ho,h1,k1,h3,k3,av],k4⟩
   cases h
  cases h
 |indexAddr t x i=>
  simp only[bP,ho]at h;split at h
  .rename_i e s lU ag sz z k l ap n h1 h2 h3;split at h
   .rename_i hs;simp only[dU]at hs;cases h;simp only[af]at h2;obtain⟨u,h6,h7⟩:=h2;obtain⟨d,k1,k2⟩:=bD hE h6;have k3:=dg (tt:=tt) (t:=t) k2;rw[h7]at k3;cases d<;>simp only[RT]at k3;obtain⟨k3,-⟩:=k3;have hlt:n.toNat<l.length:=by omega
    obtain⟨r,m1,m2,-⟩:=Ei k3 (bQ hlt);exact⟨_,by simp only[ah,ho,h1,k1,qM hE h3,hc.1,if_true,m1,(rH m2).trans hs];rfl,by simp only[RT];exact⟨k3,trivial,trivial,hlt⟩⟩
   cases h
  .rename_i k s ag sz z id off n h1 h2 h3;split at h;.rename_i h4;cases h;simp only[af]at h2;obtain⟨u,h6,h7⟩:=h2;obtain⟨d,k1,k2⟩:=bD hE h6;have k3:=dg (tt:=tt) (t:=t) k2;rw[h7]at k3;cases d<;>simp only[RT]at k3;obtain⟨k5,rfl⟩:=k3;exact⟨_,by simp only[ah,ho,h1,k1,qM hE h3,h4,and_self,if_true];rfl,by simp only[RT];exact⟨k5,trivial⟩⟩
   cases h
  .rename_i k s ag sz z e l j off n h1 h2 h3;split at h;.rename_i h4;cases h;simp only[af]at h2;obtain⟨u,h6,h7⟩:=h2;obtain⟨d,k1,k2⟩:=bD hE h6;have k3:=dg (tt:=tt) (t:=t) k2;rw[h7]at k3;cases d<;>simp only[RT]at k3;obtain⟨k5,rfl,rfl,k6⟩:=k3;exact⟨_,by simp only[ah,ho,h1,k1,qM hE h3,h4,and_self,if_true];rfl,by simp only[RT];exact⟨k5,trivial,trivial,k6⟩⟩
   cases h
  cases h
 |index t x i=>
  simp only[bP,ho]at h;split at h
  .rename_i k s ag sz z l n h1 h2 h3;split at h;.rename_i h5;simp only[af,ay]at h;obtain⟨w,h4,rfl,-⟩:=h;obtain⟨d,k1,k2⟩:=bD hE h2;cases d<;>simp only[RT]at k2;obtain⟨r,k3,k4⟩:=si k2 h4;exact⟨r,by simp only[ah,ho,h1,k1,qM hE h3,h5,and_self,if_true,k3,av],k4⟩
   cases h
  cases h
 |extract t i=>
  simp only[bP,ho]at h;split at h;.rename_i l h1;simp only[af,ay]at h;obtain⟨w,h4,rfl,-⟩:=h;obtain⟨d,k1,k2⟩:=bD hE h1;cases d<;>simp only[RT]at k2;obtain⟨r,k3,k4⟩:=vH k2 h4;exact⟨r,by simp only[ah,ho,k1,k3,av],dg k4⟩
  cases h
 |call cl=>
  obtain⟨callee,args,argTypes⟩:=cl;cases callee with
  |builtin b=>
   simp only[bP,ho]at h;split at h
   .rename_i x t ha ht;split at h;.rename_i e s lU ag sz z k l ap h1 h2;cases h;simp only[af]at h2;obtain⟨u,h6,h7⟩:=h2;obtain⟨d,k1,k2⟩:=bD hE h6;have k3:=dg (tt:=tt) (t:=t) k2;rw[h7]at k3;cases d<;>simp only[RT]at k3;exact⟨_,by simp only[ah,ho,ha,ht,h1,k1];rfl,by simp only[RT];rw[mI k3.1]⟩
    .rename_i n s ag sz z h1;cases h;exact⟨_,by simp only[ah,ho,ha,ht,h1];rfl,by simp only[RT]⟩
    .rename_i w h2 hn2;simp only[af,ay]at h h2;obtain⟨r,h4,rfl,-⟩:=h;obtain⟨u,h6,h7⟩:=h2;obtain⟨d,k1,k2⟩:=bD hE h6;have k3:=dg (tt:=tt) (t:=t) k2;rw[h7]at k3;cases d<;>simp only[RT]at k3;subst k3;obtain⟨d,k5,k6⟩:=vD (ι:=ι) (S:=S) h4;exact⟨d,by simp only[ah,ho,ha,ht,k1,k5,av],k6⟩
    cases h
   .split at h;.rename_i vs h1;simp only[af,ay]at h;obtain⟨r,h4,rfl,-⟩:=h;simp only[qY]at h1;obtain⟨us,h5,h6⟩:=h1;obtain⟨ds,k1,k2⟩:=s6 hE h5;obtain⟨d,k5,k6⟩:=vD (ι:=ι) (S:=S) h4;exact⟨d,by simp only[ah,ho,k1,cq,xS k2 h6,k5,av],k6⟩
    cases h
   .split at h;.rename_i vs h1;simp only[af,ay]at h;obtain⟨r,h4,rfl,-⟩:=h;simp only[qY]at h1;obtain⟨us,h5,h6⟩:=h1;obtain⟨ds,k1,k2⟩:=s6 hE h5;obtain⟨d,k5,k6⟩:=vD (ι:=ι) (S:=S) h4;exact⟨d,by simp only[ah,ho,k1,cq,xS k2 h6,k5,av],k6⟩
    cases h
   cases h
  |_=>simp only[bP,ho]at h;cases h
 |_=>simp only[bP,ho]at h;cases h
end Go.Tv
