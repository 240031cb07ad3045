import Derived.Test.YtedcgbkilmlbhaaGreatPk01
namespace Go.Tv
open Go Go.Di
def TV.cells:TV->cp
 |.agg l=>l
 |v=>[v]
def TV.known:TV->Bool
 |.unk=>false
 |_=>true
def TV.Ea:TV->Bool
 |.unk|.tup _=>false
 |_=>true
def ur:DV->TV
 |.val v=>.val v
 |.sl [] none ⟨true,some true⟩=>.ax
 |_=>.unk
def aal:DV->TV
 |.agg l=>.agg (l.map ur)
 |.fn f [] []=>.fn f [] []
 |d=>ur d
inductive TB where
 |none
 |cells (l:cp)
 |own (e s:Nat)
 |map (kt:TT) (l:List kt.den)
 |rows (t:TT) (e:Nat) (l:List t.den) (z:Bool)
 |loop
abbrev dk:=List TB
abbrev cx:=List TB
instance:Inhabited TB:=⟨.none⟩
section
variable (P:Program) (ty:gb) (tt:TypeId->cJ)
def fT(te:cp):Operand->Option TV
 |.tmp t=>some (te.getD t .unk)
 |.const v=>(BZ v).map aal
 |.func f=>some (.fn f [] [])
 |.global _=>none
def mj(te:cp):List Operand->Option cp
 |[]=>some []
 |x::l=>match fT te x,mj te l with
  |some d,some r=>some (d::r)
  |_,_=>none
def A4(te:cp):List (Nat×Operand)->Option (List (Nat×TV))
 |[]=>some []
 |(i,x)::l=>match fT te x,A4 te l with
  |some d,some r=>some ((i,d)::r)
  |_,_=>none
def iU:cp->Option (List Value)
 |[]=>some []
 |.val v::l=>(iU l).map (v::·)
 |_=>none
def iM:TV->Option Value
 |.val v=>some v
 |.agg l=>(iU l).map λr=>.agg r.toArray
 |_=>none
def zb:cp->Option (List Value)
 |[]=>some []
 |d::l=>match iM d,zb l with
  |some v,some r=>some (v::r)
  |_,_=>none
def Ir(te:cp)(x:Operand):Option Int:=
 match fT te x with
 |some (.val (.int _ n))=>some n
 |_=>none
def fV(t:TypeId)(v:TV):TV:=
 match v with
 |.ax=>match tt t with
  |some (.sl e)=>.sl e [] .full
  |_=>.ax
 |v=>v
def aeC(l:cp)(off n:Nat):Option cp:=if off+n<=l.length then some ((l.drop off).take n)else none
def Ny(l:cp)(off:Nat)(cs:cp):Option cp:=if off+cs.length<=l.length then some (l.take off++cs++l.drop (off+cs.length))else none
def xm(agg:Bool)(size:Nat)(l:cp)(off:Nat):Option TV:=if agg then(aeC l off size).map .agg else l[off]?
def K4(place:Nat->Option (Nat×Nat))(cs:cp):List (Nat×TV)->Option cp
 |[]=>some cs
 |(i,v)::r=>match place i with
  |none=>none
  |some (off,size)=>if v.known&&v.cells.length==size then match Ny cs off v.cells with
    |some iZ=>K4 place iZ r
    |none=>none
   else none
def xP:Option DV->Option TV
 |some (.val v)=>some (.val v)
 |_=>none
def D9(t:TT)(i:Nat):List (Nat×TV)->Option (List t.den)
 |[]=>some []
 |(j,v)::r=>if j==i&&v.Ea then match t.of v.cells,D9 t (i+1) r with
   |some (x,[]),some l=>some (x::l)
   |_,_=>none
  else none
def VF(t:Bool):Option TV->Option TV->Option TV
 |some (.val (.bool x)),some (.val (.bool y))=>some (.val (.bool (bif t then x else y)))
 |some (.val (.int k x)),some (.val (.int k' y))=>if k'=k then some (.val (.int k (bif t then x else y)))else none
 |a,b=>match t with
  |true=>a
  |false=>b
def Eb(te:cp):Option Operand->Option (Option Int)
 |none=>some none
 |some x=>(Ir te x).map some
def ako(o:Option Int)(eU:Nat):Prop:=
 match o with
 |none=>True
 |some n=>0<=n/\n<=(eU:Int)
def Wt(t:TT)(l:List t.den)(lo hi mx:Option Int):TV×Prop:=
 match mx with
 |none=>match hi with
  |none=>match lo with
   |none=>(.sl t l .no,True)
   |some a=>(.sl t (l.drop a.toNat) .no,0<=a/\a<=(l.length:Int))
  |some h=>match lo with
   |none=>(.sl t (l.take h.toNat) .no,0<=h/\h<=(l.length:Int))
   |some a=>(.sl t ((l.take h.toNat).drop a.toNat) .no,0<=a/\a<=h/\h<=(l.length:Int))
 |some m=>match hi with
  |none=>(.unk,False)
  |some h=>match lo with
   |none=>(.sl t (l.take h.toNat) .full,0<=h/\h=m/\h<=(l.length:Int))
   |some a=>(.sl t ((l.take h.toNat).drop a.toNat) .full,0<=a/\a<=h/\h=m/\h<=(l.length:Int))
def bX(te:cp)(tS:cx)(o:Oper):Option (TV×Prop):=
 match o.op with
 |.move x|.assign x=>(fT te x).map λv=>(fV tt o.type v,True)
 |.pick c a b=>match fT te c with
  |some (.val (.bool t))=>(VF t (fT te a) (fT te b)).map (·,True)
  |_=>none
 |.build t ps=>match ty t,A4 te ps.toList with
  |some ⟨.struct fs,_,some z⟩,some l=>(K4 (λi=>(fs[i]?).map λf=>(f.1,f.2.1)) (z.map ur) l).map λcs=>(.agg cs,True)
  |some ⟨.array _ s _,_,some z⟩,some l=>(K4 (λi=>some (i*s,s)) (z.map ur) l).map λcs=>(.agg cs,True)
  |_,_=>none
 |.buildSlice t n ps=>match ty t,A4 te ps.toList,tt t with
  |some ⟨.slice e s _ agg,_,_⟩,some l,some (.sl k)=>match ty e with
   |some ⟨_,_,some z⟩=>if decide (0<s)&&decide (n*s<=16777216)&&l.length==n&&z.length==s&&k.size==s&&k.agg==agg&&(agg||s==1)&&ty.h o !=1 then
     (D9 k 0 l).map λl=>(.sl k l .full,True)
    else none
   |_=>none
  |_,_,_=>none
 |.load t a=>match ty t,fT te a with
  |some d,some (.ptr id off)=>match tS[id]? with
   |some (.cells l)=>(xm d.k.isAgg d.size l off).map λv=>(fV tt t v,True)
   |_=>none
  |some d,some (.fM e l i off)=>(xm d.k.isAgg d.size (e.cells (l.getD i e.dft)) off).map λv=>(fV tt t v,True)
  |_,_=>none
 |.nilCheck x=>match fT te x with
  |some (.ptr id off)=>some (.ptr id off,True)
  |_=>none
 |.binOp op t x y _=>match(fT te x).bind iM,(fT te y).bind iM with
  |some a,some b=>(xP (jC P (do eqGuard op t x y a b;binOp op t a b))).map (·,True)
  |_,_=>none
 |.unOp op _ x=>match(fT te x).bind iM with
  |some a=>(xP (jC P (Op.unary op a))).map (·,True)
  |none=>none
 |.convert s d x=>match(fT te x).bind iM with
  |some a=>(xP (jC P (Go.convert s d a))).map (·,True)
  |none=>none
 |.makeFunc (.func f) fs cs=>match mj te fs.toList,mj te cs.toList with
  |some a,some b=>some (.fn f a b,True)
  |_,_=>none
 |.slice t x lo hi mx=>match ty t,(fT te x).map (fV tt t),Eb te lo,Eb te hi,Eb te mx with
  |some ⟨.slice _ s _ _,_,_⟩,some (.sl k l _),some lo,some hi,some mx=>if k.size==s then some (Wt k l lo hi mx)else none
  |_,_,_,_,_=>none
 |.fieldAddr t x f=>match ty t,fT te x with
  |some ⟨.struct fs,_,_⟩,some (.ptr id off)=>match fs[f]? with
   |some (o,s,_)=>if 0<s then some (.ptr id (off+o),True)else none
   |none=>none
  |some ⟨.struct fs,_,_⟩,some (.fM k l i off)=>match fs[f]? with
   |some (o,s,_)=>if 0<s then some (.fM k l i (off+o),True)else none
   |none=>none
  |_,_=>none
 |.field t x f=>match ty t,fT te x with
  |some ⟨.struct fs,_,_⟩,some (.agg l)=>match fs[f]? with
   |some (off,s,agg)=>(xm agg s l off).map (·,True)
   |none=>none
  |_,_=>none
 |.indexAddr t x i=>match ty t,(fT te x).map (fV tt t),Ir te i with
  |some ⟨.slice _ s _ _,_,_⟩,some (.sl k l _),some n=>if k.size==s then some (.fM k l n.toNat 0,0<=n/\n<(l.length:Int))else none
  |some ⟨.array k s _,_,_⟩,some (.ptr id off),some n=>if 0<=n/\n.toNat<k then some (.ptr id (off+n.toNat*s),True)else none
  |some ⟨.array k s _,_,_⟩,some (.fM e l j off),some n=>if 0<=n/\n.toNat<k then some (.fM e l j (off+n.toNat*s),True)else none
  |_,_,_=>none
 |.index t x i=>match ty t,fT te x,Ir te i with
  |some ⟨.array k s agg,_,_⟩,some (.agg l),some n=>if 0<=n/\n.toNat<k then(xm agg s l (n.toNat*s)).map (·,True)else none
  |_,_,_=>none
 |.extract t i=>match fT te t with
  |some (.tup l)=>(l[i]?).map λv=>(fV tt o.type v,True)
  |_=>none
 |.call {callee:=.builtin b,args,argTypes}=>match b,args.toList,argTypes.toList with
  |.len,[x],[t]=>match ty t,(fT te x).map (fV tt t)with
   |some ⟨.slice _ _ _ _,_,_⟩,some (.sl _ l _)=>some (.val (.int .i64 (l.length:Nat)),True)
   |some ⟨.array n _ _,_,_⟩,_=>some (.val (.int .i64 n),True)
   |_,some (.val v)=>(xP (jC P (Builtin.len_ #[t] o.type #[v]))).map (·,True)
   |_,_=>none
  |.min,xs,_=>match(mj te xs).bind zb with
   |some vs=>(xP (jC P (Builtin.min_ argTypes o.type vs.toArray))).map (·,True)
   |none=>none
  |.max,xs,_=>match(mj te xs).bind zb with
   |some vs=>(xP (jC P (Builtin.max_ argTypes o.type vs.toArray))).map (·,True)
   |none=>none
  |_,_,_=>none
 |_=>none
end
section
variable {P:Program} {ty:gb} {tt:TypeId->cJ} {ι:lp} {S:ai} {te:cp} {env:cj} {tS:cx}
theorem vt{v:TV}{d:DV}(hk:v.known=true)(h:RT ι S v d):cO ι S v.cells d.cells:=by cases v<;>cases d<;>simp only[RT]at h<;>first|(cases hk;done)|exact h|(refine lq ?_;simp only[RT];exact h)
theorem Wx(d:DV):RT ι S (ur d) d:=by unfold ur;split<;>simp[RT]
theorem we:∀l:cj,cO ι S (l.map ur) l
 |[]=>bS
 |d::l=>aR (Wx d) (we l)
theorem ahx(d:DV):RT ι S (aal d) d:=by
 unfold aal;split;simp only[RT];exact we _
 simp only[RT,cO,and_true];exact Wx _
theorem bL(h:cO ι S te env){x:Operand}{v:TV}(hx:fT te x=some v):∃d,jA env x=some d/\RT ι S v d:=by
 cases x with
 |tmp t=>cases hx;exact⟨_,rfl,El h t⟩
 |const u=>simp only[fT,ah]at hx;obtain⟨d,h1,rfl⟩:=hx;exact⟨d,h1,ahx d⟩
 |func f=>cases hx;exact⟨_,rfl,by simp only[RT,cO,and_true]⟩
 |global g=>cases hx
theorem tD(h:cO ι S te env):∀{xs:List Operand}{vs:cp},mj te xs=some vs->∃ds,evs (jA env) xs=some ds/\cO ι S vs ds
 |[],_,hx=>by cases hx;exact⟨[],rfl,bS⟩
 |x::l,vs,hx=>by simp only[mj]at hx;split at hx;rename_i d r h1 h2;cases hx;obtain⟨d',k1,k2⟩:=bL h h1;obtain⟨ds,k3,k4⟩:=tD h h2;exact⟨d'::ds,by simp only[evs,k1,k3],aR k2 k4⟩;cases hx
def Ef(ι:lp)(S:ai):List (Nat×TV)->List (Nat×DV)->Prop
 |[],[]=>True
 |(i,v)::l,(j,d)::m=>(j=i/\RT ι S v d)/\Ef ι S l m
 |_,_=>False
theorem sJ(h:cO ι S te env):∀{xs:List (Nat×Operand)}{vs:List (Nat×TV)},A4 te xs=some vs->∃ds,kO (jA env) xs=some ds/\Ef ι S vs ds
 |[],_,hx=>by cases hx;exact⟨[],rfl,trivial⟩
 |(i,x)::l,vs,hx=>by simp only[A4]at hx;split at hx;rename_i d r h1 h2;cases hx;obtain⟨d',k1,k2⟩:=bL h h1;obtain⟨ds,k3,k4⟩:=sJ h h2;exact⟨(i,d')::ds,by simp only[kO,k1,k3],⟨rfl,k2⟩,k4⟩;cases hx
theorem Cf:∀{l:cp}{m:cj}{vs:List Value},cO ι S l m->iU l=some vs->th m=some vs
 |[],m,vs,h,hx=>by rw[aQ h];exact hx
 |a::l,m,vs,h,hx=>by
  obtain⟨d,m',rfl,h1,h2⟩:=aj h;unfold iU at hx;split at hx
  grind
  rename_i v l' e;cases e;simp only[ah]at hx;obtain⟨r,h3,rfl⟩:=hx;cases d<;>simp only[RT]at h1;subst h1;simp only[th,Cf h2 h3,az];cases hx
theorem GN{v:TV}{d:DV}{u:Value}(h:RT ι S v d)(hx:iM v=some u):BT d=some u:=by unfold iM at hx;split at hx;cases hx;cases d<;>simp only[RT]at h;subst h;rfl;simp only[ah]at hx;obtain⟨r,h1,rfl⟩:=hx;cases d<;>simp only[RT]at h;simp only[BT,Cf h h1,az];cases hx
theorem ya:∀{l:cp}{m:cj}{vs:List Value},cO ι S l m->zb l=some vs->vh m=some vs
 |[],m,vs,h,hx=>by rw[aQ h];exact hx
 |a::l,m,vs,h,hx=>by obtain⟨d,m',rfl,h1,h2⟩:=aj h;simp only[zb]at hx;split at hx;rename_i v r e1 e2;cases hx;simp only[vh,GN h1 e1,ya h2 e2];cases hx
theorem gv(h:cO ι S te env){x:Operand}{u:Value}(hx:(fT te x).bind iM=some u):valOf (jA env) x=some u:=by
 cases h1:fT te x with
 |none=>rw[h1]at hx;cases hx
 |some v=>rw[h1]at hx;obtain⟨d,h2,h3⟩:=bL h h1;simp only[valOf,h2,dc];exact GN h3 hx
theorem qV(h:cO ι S te env){x:Operand}{n:Int}(hx:Ir te x=some n):intOf (jA env) x=some n:=by unfold Ir at hx;split at hx;rename_i k m h1;cases hx;obtain⟨d,h2,h3⟩:=bL h h1;cases d<;>simp only[RT]at h3;subst h3;simp only[intOf,h2];cases hx
theorem dn{t:TypeId}{v:TV}{d:DV}(h:RT ι S v d):RT ι S (fV tt t v) d:=by unfold fV;split;split;cases d<;>simp only[RT]at h;obtain⟨rfl,rfl,rfl⟩:=h;simp only[RT,eX,pU,and_self];exact h;exact h
theorem acr{l:cp}{m:cj}(h:cO ι S l m){off n:Nat}{r:cp}(hx:aeC l off n=some r):∃r',Vq m off n=some r'/\cO ι S r r':=by unfold aeC at hx;split at hx;cases hx;rename_i hle;exact⟨_,if_pos (by rw[gN h];exact hle),Ek _ (Em _ h)⟩;cases hx
theorem Jr{l:cp}{m:cj}(h:cO ι S l m){cs:cp}{ds:cj}(hc:cO ι S cs ds){off:Nat}{r:cp}(hx:Ny l off cs=some r):∃r',wV m off ds=some r'/\cO ι S r r':=by unfold Ny at hx;split at hx;cases hx;rename_i hle;refine⟨_,if_pos (by rw[gN h,gN hc];exact hle),eB (eB (Ek _ h) hc) ?_⟩;rw[gN hc];exact Em _ h;cases hx
theorem sB{l:cp}{m:cj}(h:cO ι S l m){agg:Bool}{size off:Nat}{r:TV}(hx:xm agg size l off=some r):∃r',pY agg size m off=some r'/\RT ι S r r':=by unfold xm at hx;split at hx;rename_i ha;simp only[ah]at hx;obtain⟨r1,h1,rfl⟩:=hx;obtain⟨r',h2,h3⟩:=acr h h1;exact⟨.agg r',by simp only[pY,ha,if_true,h2,az],by simp only[RT];exact h3⟩;rename_i ha;obtain⟨d,h1,h2⟩:=wh h hx;exact⟨d,by simp only[pY,ha,h1];rfl,h2⟩
theorem EI{place:Nat->Option (Nat×Nat)}:∀{ps:List (Nat×TV)}{qs:List (Nat×DV)}{l:cp}{m:cj}{r:cp},Ef ι S ps qs->cO ι S l m->K4 place l ps=some r->∃r',lS place m qs=some r'/\cO ι S r r'
 |[],[],l,m,r,_,h,hx=>by cases hx;exact⟨m,rfl,h⟩
 |(i,v)::ps,(j,d)::qs,l,m,r,hp,h,hx=>by obtain⟨⟨rfl,hv⟩,hp⟩:=hp;simp only[K4]at hx;split at hx;cases hx;rename_i off size CI;split at hx;rename_i hc;simp only[aD,ee]at hc;have rS:=vt hc.1 hv;split at hx;rename_i iZ pP;obtain⟨m',h1,h2⟩:=Jr h rS pP;obtain⟨r',h3,h4⟩:=EI hp h2 hx;refine⟨r',?_,h4⟩;simp only[lS,CI,gN rS,hc.2,if_true,h1,h3];cases hx;cases hx
theorem vX{o:Option DV}{v:TV}(h:xP o=some v):∃d,o=some d/\RT ι S v d:=by
 unfold xP at h;split at h;cases h;exact⟨_,rfl,by simp only[RT]⟩
 cases h
theorem Yi{t:Bool}{a b:Option TV}{v:TV}{a' b':Option DV}(ha:∀v,a=some v->∃d,a'=some d/\RT ι S v d)(hb:∀v,b=some v->∃d,b'=some d/\RT ι S v d)(h:VF t a b=some v):∃d,(if t then a' else b')=some d/\RT ι S v d:=by
 unfold VF at h;split at h
 grind
 grind
 grind
end
end Go.Tv
namespace Go.Tv
open Go Go.Di
variable {P:Program} {ty:gb} {tt:TypeId->cJ} {ι:lp} {S:ai} {te:cp} {env:cj} {tS:cx} {aI:b9} {call:bG} {yf:ez} {o:Oper} {aC:Nat} {v:TV} {c:Prop}
def I9(ι:lp)(S:ai)(tS:cx):Prop:=∀k l,tS[k]? =some (.cells l)->∃k' ds,ι k=some k'/\S[k']? =some (.cells ds)/\cO ι S l ds
theorem abX(hE:cO ι S te env)(hP:I9 ι S tS){t:TypeId}{a:Operand}(ho:o.op=.load t a)(h:bX P ty tt te tS o=some (v,c)):∃d,af P ty aI call yf (jA env) o S aC=some (d,S)/\RT ι S v d:=by
 simp only[bX,ho]at h;split at h;rename_i td id off h1 h2;split at h;rename_i l h3;simp only[ah,aA]at h;obtain⟨w,h4,rfl,-⟩:=h;obtain⟨d,k1,k2⟩:=bL hE h2;obtain⟨jf,ds,k3,k4,k5⟩:=hP _ _ h3;cases d<;>simp only[RT]at k2;obtain⟨k6,rfl⟩:=k2;rw[k3]at k6;cases k6;obtain⟨r,k7,k8⟩:=sB k5 h4;exact⟨r,by simp only[af,ho,k1,lQ,h1,k4,k7,az],dn k8⟩;cases h;rename_i td e l i off h1 h2;simp only[ah,aA]at h;obtain⟨w,h4,rfl,-⟩:=h;obtain⟨d,k1,k2⟩:=bL hE h2;cases d<;>simp only[RT]at k2;obtain⟨k3,rfl,rfl,k4⟩:=k2;obtain⟨r,m1,m2,-⟩:=En k3 (cq k4);rename_i j j';have hg:l.getD j e.dft=l[j]:=by simp[aU,k4]
 rw[hg]at h4;obtain⟨r',m3,m4⟩:=sB (qu (ι:=ι) (S:=S) m2) h4;exact⟨r',by simp only[af,ho,k1,lQ,h1,m1,m3,az],dn m4⟩;cases h
def GJ(t:TT):Nat->List (Nat×DV)->List t.den->Prop
 |_,[],[]=>True
 |i,(j,d)::qs,x::l=>(j=i/\CR t x d.strip.cells)/\GJ t (i+1) qs l
 |_,_,_=>False
theorem MI{v:TV}{d:DV}(hk:v.Ea=true)(h:RT ι S v d):d.strip.cells=d.cells.map DV.aO:=by cases v<;>cases d<;>simp only[RT]at h<;>first|(cases hk;done)|rfl
theorem Mf{v:TV}(hk:v.Ea=true):v.known=true:=by cases v<;>first|rfl|cases hk
theorem EL{t:TT}:∀{ps:List (Nat×TV)}{qs:List (Nat×DV)}{i:Nat}{l:List t.den},Ef ι S ps qs->D9 t i ps=some l->GJ t i qs l/\l.length=ps.length
 |[],[],i,l,_,h=>by cases h;exact⟨trivial,rfl⟩
 |(j,v)::ps,(j',d)::qs,i,l,hp,h=>by obtain⟨⟨rfl,hv⟩,hp⟩:=hp;simp only[D9]at h;split at h;rename_i hc;simp only[aD,ee]at hc;obtain⟨rfl,hk⟩:=hc;split at h;rename_i x l' h1 h2;cases h;obtain⟨cs,m',e1,e2,e3⟩:=Gw h1 (vt (Mf hk) hv);rw[aQ e3,dW]at e1;obtain⟨k1,k2⟩:=EL hp h2;exact⟨⟨⟨rfl,by rw[MI hk hv,e1];exact e2⟩,k1⟩,by simp[k2]⟩;cases h;cases h
def jJ(qs:List (Nat×DV)):cj:=qs.flatMap λq=>q.2.strip.cells
theorem yD{t:TT}{s:Nat}(hs:t.size=s):∀{qs:List (Nat×DV)}{i:Nat}{l:List t.den}{pre post:cj},GJ t i qs l->pre.length=i*s->post.length=qs.length*s->
  lS (λi=>some (i*s,s)) (pre++post) (qs.map λ(i,v)=>(i,v.strip))=some (pre++jJ qs)
 |[],i,[],pre,post,_,hp,hq=>by have:post=[]:=eR (by simpa using hq);subst this;simp[lS,jJ]
 |(j,d)::qs,i,x::l,pre,post,h,hp,hq=>by
  obtain⟨⟨rfl,hc⟩,h⟩:=h;have hl:d.strip.cells.length=s:=(oJ hc).trans hs;have UN:post.length=qs.length*s+s:=by rw[hq,di,j8,Nat.one_mul]
  have pP:wV (pre++post) (j*s) d.strip.cells=some ((pre++d.strip.cells)++post.drop s):=by unfold wV;rw[if_pos (by rw[cn,hp,hl];omega),hl,<-hp,List.take_left' rfl,zB,ki ab];simp
  simp only[aY,lS,hl,if_true,pP];rw[yD hs h (by rw[cn,hp,hl,j8,Nat.one_mul]) (by rw[List.length_drop,UN];omega)];simp[jJ]
theorem row_one{t:TT}{x:t.den}{cs:cj}(h:CR t x cs)(ha:t.agg=false):CR t x (cs.getD 0 bK).cells/\y8 t.agg (cs.getD 0 bK):=by
 cases t with
 |unit|pair=>cases ha
 |sl t=>simp only[CR]at h;obtain⟨rows,f,rfl,h⟩:=h;exact⟨by simp only[CR,List.getD_cons_zero,DV.cells];exact⟨rows,f,rfl,h⟩,by simp[y8,TT.agg]⟩
 |_=>simp only[CR]at h;subst h;exact⟨by simp only[CR,List.getD_cons_zero,DV.cells],by simp[y8,TT.agg]⟩
theorem Cm{s:Nat}{agg:Bool}{c r:cj}{n:Nat}(hc:c.length=s):rowsOf s agg (c++r) (n+1)=(if agg then .agg c else(c++r).getD 0 bK)::rowsOf s agg r n:=by
 unfold rowsOf;rw[List.range_succ_eq_map,aY,jm];congr 1;unfold rowOf;split
 grind
 grind
 refine List.map_congr_left λi _=>?_;simp only[Function.comp,rowOf,Nat.succ_eq_add_one,j8,Nat.one_mul];rw[nO (i*s) s,<-hc,zB,ki (Nat.le_add_right _ _),tM,jq,aU,aU,jr (Nat.le_add_right _ _),tM]
theorem E3{t:TT}{s:Nat}(hs:t.size=s)(h1:t.agg=true\/s=1):∀{qs:List (Nat×DV)}{i:Nat}{l:List t.den},GJ t i qs l->eX (CR t) t.agg l (rowsOf s t.agg (jJ qs) l.length)
 |[],_,[],_=>by simp[rowsOf,eX]
 |(j,d)::qs,i,x::l,h=>by
  obtain⟨⟨rfl,hc⟩,h⟩:=h;have hl:d.strip.cells.length=s:=(oJ hc).trans hs;have e:jJ ((j,d)::qs)=d.strip.cells++jJ qs:=by simp[jJ]
  rw[e,di,Cm hl];refine⟨?_,E3 hs h1 h⟩;cases ha:t.agg with
  |true=>exact⟨hc,by simp[y8]⟩
  |false=>
   have:=row_one hc ha;rw[ha]at this;have h2:0<d.strip.cells.length:=by rw[hl];rcases h1 with h1|h1<;>first|(rw[ha]at h1;cases h1;done)|omega
   have e2:(d.strip.cells++jJ qs).getD 0 bK=d.strip.cells.getD 0 bK:=by grind
   simp only[aK,if_false];rw[e2];exact this
theorem ym{t:TT}:∀{qs:List (Nat×DV)}{i:Nat}{l:List t.den},GJ t i qs l->(jJ qs).all DV.ct=true
 |[],_,[],_=>rfl
 |(j,d)::qs,i,x::l,h=>by
  obtain⟨⟨rfl,hc⟩,h⟩:=h;have e:jJ ((j,d)::qs)=d.strip.cells++jJ qs:=by simp[jJ]
  rw[e,qZ,tE hc,ym h];rfl
theorem Bt:∀{ps:List (Nat×TV)}{qs:List (Nat×DV)},Ef ι S ps qs->qs.length=ps.length
 |[],[],_=>rfl
 |_::ps,_::qs,h=>by simp[Bt h.2]
theorem Ga(hE:cO ι S te env){t:TypeId}{n:Nat}{ps:Array (Nat×Operand)}(ho:o.op=.buildSlice t n ps)(h:bX P ty tt te tS o=some (v,c)):∃d,af P ty aI call yf (jA env) o S aC=some (d,S)/\RT ι S v d:=by
 simp only[bX,ho]at h;split at h;rename_i e s mh agg sz z0 l k h1 h2 h3;split at h;rename_i k0 sz' z h4;split at h;rename_i hc;simp only[aD,ee,j9,cA]at hc;obtain⟨⟨⟨⟨⟨⟨⟨c1,c2⟩,c3⟩,c4⟩,c5⟩,c6⟩,c7⟩,c8⟩:=hc;have c8:ty.h o≠1:=by simpa using c8
 simp only[ah,aA]at h;obtain⟨w,h5,rfl,-⟩:=h;obtain⟨ds,k1,k2⟩:=sJ hE h2;obtain⟨k3,k4⟩:=EL k2 h5;have hlen:ds.length=n:=by rw[Bt k2,c3]
 have aef:((List.replicate n z).flatten).length=ds.length*s:=by rw[hlen,List.length_flatten,List.map_replicate,c4,List.sum_replicate_nat]
 have hf:=yD (pre:=[]) (post:=(List.replicate n z).flatten) c5 k3 ae aef;rw[jq,jq]at hf;have hn:w.length=n:=by rw[k4,c3]
 have hr:=E3 c5 (by rw[c6];exact c7) k3;rw[c6,hn]at hr;have c7':(agg||s==1)=true:=by simpa using c7
 refine⟨.sl (rowsOf s agg (jJ ds) n) none ⟨true,some false⟩,?_,?_⟩;simp only[af,ho,h1,k1,h4,iN c1,iN c2,jo,if_true,hf,ym k3,c7',c8];simp only[RT,pU,and_self,and_true];rw[c6];exact hr;cases h;cases h;cases h
theorem XL(hE:cO ι S te env){t:TypeId}{x:Operand}{lo hi mx:Option Operand}(ho:o.op=.slice t x lo hi mx)(h:bX P ty tt te tS o=some (v,c))(hc:c):∃d,af P ty aI call yf (jA env) o S aC=some (d,S)/\RT ι S v d:=by
 have hb:∀{y:Option Operand}{b:Option Int},Eb te y=some b->(y=none/\b=none)\/∃z n,y=some z/\b=some n/\intOf (jA env) z=some n:=by
  intro y b hy;cases y with
  |none=>cases hy;exact .inl ⟨rfl,rfl⟩
  |some z=>simp only[Eb,ah]at hy;obtain⟨n,h1,rfl⟩:=hy;exact .inr ⟨z,n,rfl,rfl,qV hE h1⟩
 simp only[bX,ho]at h;split at h;rename_i e s mh agg sz z0 k l ap lo' Np mx' h1 h2 h3 h4 h5;split at h;rename_i hs;simp only[ee]at hs;simp only[ah]at h2;obtain⟨u,h6,h7⟩:=h2;obtain⟨d,k1,k2⟩:=bL hE h6;have k3:=dn (tt:=tt) (t:=t) k2;rw[h7]at k3;cases d<;>simp only[RT]at k3;rename_i rows tok f;obtain⟨k3,k4⟩:=k3;have hlen:=kZ k3;have gd:(rows.all λr=>decide (r.cells.length=s))=true:=aX.2 λr hr=>iN ((jQ k3 r hr).trans hs);simp only[aG]at h;rcases hb h3 with ⟨rfl,rfl⟩|⟨zl,nl,rfl,rfl,el⟩<;>rcases hb h4 with ⟨rfl,rfl⟩|⟨zh,nh,rfl,rfl,eh⟩<;>rcases hb h5 with ⟨rfl,rfl⟩|⟨zm,nm,rfl,rfl,em⟩<;>
  simp only[Wt,aA]at h<;>obtain⟨rfl,rfl⟩:=h
 exact⟨_,by simp only[af,ho,h1,k1,gd,iE,j7,s7,if_true,gQ,aK,if_false,Option.isNone,Option.isSome,qX,mN,az];rfl,by simp only[RT,pU,and_true,pn,fR];exact k3⟩
 grind
 have a1:0<=nh/\nh.toNat<=rows.length:=⟨hc.1,by rw[hlen];omega⟩;exact⟨_,by simp only[af,ho,h1,k1,gd,iE,eh,a1,j7,s7,if_true,gQ,aK,if_false,Option.isNone,Option.isSome,qX,mN,az,and_self];rfl,by simp only[RT,pU,and_true,pn];exact sG _ k3⟩;obtain⟨b1,rfl,b2⟩:=hc;have a1:0<=nh/\nh.toNat<=rows.length:=⟨b1,by rw[hlen];omega⟩;exact⟨_,by simp only[af,ho,h1,k1,gd,iE,eh,em,a1,j7,s7,if_true,gQ,aK,if_false,Option.isNone,Option.isSome,qW,az,and_self,ak];rfl,by simp only[RT,pU,and_true,pn,zD];exact sG _ k3⟩;have a1:0<=nl/\nl.toNat<=rows.length:=⟨hc.1,by rw[hlen];omega⟩;exact⟨_,by simp only[af,ho,h1,k1,gd,iE,el,a1,s7,if_true,gQ,aK,if_false,Option.isNone,Option.isSome,qX,mN,az,and_self];rfl,by simp only[RT,pU,and_true,fR];exact wM _ k3⟩
 grind
 have a1:0<=nh/\nh.toNat<=rows.length:=⟨ab,by rw[hlen];omega⟩;have a2:0<=nl/\nl.toNat<=nh.toNat:=⟨hc.1,ab⟩;exact⟨_,by simp only[af,ho,h1,k1,gd,iE,eh,el,a1,a2,s7,if_true,gQ,aK,if_false,Option.isNone,Option.isSome,qX,mN,az,and_self];rfl,by simp only[RT,pU,and_true];exact wM _ (sG _ k3)⟩;obtain⟨b0,b1,rfl,b2⟩:=hc;have a1:0<=nh/\nh.toNat<=rows.length:=⟨ab,by rw[hlen];omega⟩;have a2:0<=nl/\nl.toNat<=nh.toNat:=⟨b0,ab⟩;exact⟨_,by simp only[af,ho,h1,k1,gd,iE,eh,el,em,a1,a2,s7,if_true,gQ,aK,if_false,Option.isNone,Option.isSome,qW,az,and_self,ak];rfl,by simp only[RT,pU,and_true,zD];exact wM _ (sG _ k3)⟩;cases h;cases h
theorem LJ(hE:cO ι S te env)(hP:I9 ι S tS)(h:bX P ty tt te tS o=some (v,c))(hc:c):∃d,af P ty aI call yf (jA env) o S aC=some (d,S)/\RT ι S v d:=by
 cases ho:o.op with
 |load t a=>exact abX hE hP ho h
 |buildSlice t n ps=>exact Ga hE ho h
 |slice t x lo hi mx=>exact XL hE ho h hc
 |move x|assign x=>simp only[bX,ho,ah,aA]at h;obtain⟨u,h1,rfl,-⟩:=h;obtain⟨d,k1,k2⟩:=bL hE h1;exact⟨d,by simp only[af,ho,k1,az],dn k2⟩
 |pick a b d=>simp only[bX,ho]at h;split at h;rename_i t h1;simp only[ah,aA]at h;obtain⟨u,h2,rfl,-⟩:=h;obtain⟨e,k1,k2⟩:=bL hE h1;cases e<;>simp only[RT]at k2;subst k2;obtain⟨e,k3,k4⟩:=Yi (λv h=>bL hE h) (λv h=>bL hE h) h2;exact⟨e,by simp only[af,ho,k1,k3,az],k4⟩;cases h
 |build t ps=>simp only[bX,ho]at h;split at h;rename_i fs sz z l h1 h2;simp only[ah,aA]at h;obtain⟨cs,h3,rfl,-⟩:=h;obtain⟨ds,k1,k2⟩:=sJ hE h2;obtain⟨r,k3,k4⟩:=EI k2 (we _) h3;exact⟨.agg r,by simp only[af,ho,h1,k1,k3,az],by simp only[RT];exact k4⟩;rename_i n s agg sz z l h1 h2;simp only[ah,aA]at h;obtain⟨cs,h3,rfl,-⟩:=h;obtain⟨ds,k1,k2⟩:=sJ hE h2;obtain⟨r,k3,k4⟩:=EI k2 (we _) h3;exact⟨.agg r,by simp only[af,ho,h1,k1,k3,az],by simp only[RT];exact k4⟩;cases h
 |nilCheck x=>simp only[bX,ho]at h;split at h;rename_i id off h1;cases h;obtain⟨d,k1,k2⟩:=bL hE h1;cases d<;>simp only[RT]at k2;exact⟨_,by simp only[af,ho,k1];rfl,by simp only[RT];exact k2⟩;cases h
 |binOp op t x y u=>simp only[bX,ho]at h;split at h;rename_i a b h1 h2;simp only[ah,aA]at h;obtain⟨w,h3,rfl,-⟩:=h;obtain⟨d,k1,k2⟩:=vX (ι:=ι) (S:=S) h3;exact⟨d,by simp only[af,ho,gv hE h1,gv hE h2,k1,az],k2⟩;cases h
 |unOp op t x=>simp only[bX,ho]at h;split at h;rename_i a h1;simp only[ah,aA]at h;obtain⟨w,h3,rfl,-⟩:=h;obtain⟨d,k1,k2⟩:=vX (ι:=ι) (S:=S) h3;exact⟨d,by simp only[af,ho,gv hE h1,k1,az],k2⟩;cases h
 |convert s t x=>simp only[bX,ho]at h;split at h;rename_i a h1;simp only[ah,aA]at h;obtain⟨w,h3,rfl,-⟩:=h;obtain⟨d,k1,k2⟩:=vX (ι:=ι) (S:=S) h3;exact⟨d,by simp only[af,ho,gv hE h1,k1,az],k2⟩;cases h
 |makeFunc f fs cs=>
  cases f with
  |func f=>simp only[bX,ho]at h;split at h;rename_i a b h1 h2;cases h;obtain⟨d,k1,k2⟩:=tD hE h1;obtain⟨e,k3,k4⟩:=tD hE h2;exact⟨_,by simp only[af,ho,k1,k3];rfl,by simp only[RT];exact⟨trivial,k2,k4⟩⟩;cases h
  |_=>simp only[bX,ho]at h;cases h
 |fieldAddr t x f=>simp only[bX,ho]at h;split at h;rename_i fs sz z id off h1 h2;split at h;rename_i oo s ag h3;split at h;rename_i h4;cases h;obtain⟨d,k1,k2⟩:=bL hE h2;cases d<;>simp only[RT]at k2;obtain⟨k3,rfl⟩:=k2;exact⟨_,by simp only[af,ho,h1,k1,h3,h4,if_true];rfl,by simp only[RT];exact⟨k3,trivial⟩⟩;cases h;cases h;rename_i fs sz z k l i off h1 h2;split at h;rename_i oo s ag h3;split at h;rename_i h4;cases h;obtain⟨d,k1,k2⟩:=bL hE h2;cases d<;>simp only[RT]at k2;obtain⟨k3,rfl,rfl,k4⟩:=k2;exact⟨_,by simp only[af,ho,h1,k1,h3,h4,if_true];rfl,by simp only[RT];exact⟨k3,trivial,trivial,k4⟩⟩;cases h;cases h;cases h
 |field t x f=>simp only[bX,ho]at h;split at h;rename_i fs sz z l h1 h2;split at h;rename_i off s ag h3;simp only[ah,aA]at h;obtain⟨w,h4,rfl,-⟩:=h;obtain⟨d,k1,k2⟩:=bL hE h2;cases d<;>simp only[RT]at k2;obtain⟨r,k3,k4⟩:=sB k2 h4;exact⟨r,by simp only[af,ho,h1,k1,h3,k3,az],k4⟩;cases h;cases h
 |indexAddr t x i=>
  simp only[bX,ho]at h;split at h;rename_i e s mh ag sz z k l ap n h1 h2 h3;split at h;rename_i hs;simp only[ee]at hs;cases h;simp only[ah]at h2;obtain⟨u,h6,h7⟩:=h2;obtain⟨d,k1,k2⟩:=bL hE h6;have k3:=dn (tt:=tt) (t:=t) k2;rw[h7]at k3;cases d<;>simp only[RT]at k3;obtain⟨k3,-⟩:=k3;have hlt:n.toNat<l.length:=ab
  obtain⟨r,m1,m2,-⟩:=En k3 (cq hlt);exact⟨_,by simp only[af,ho,h1,k1,qV hE h3,hc.1,if_true,m1,(oJ m2).trans hs];rfl,by simp only[RT];exact⟨k3,trivial,trivial,hlt⟩⟩;cases h;rename_i k s ag sz z id off n h1 h2 h3;split at h;rename_i h4;cases h;simp only[ah]at h2;obtain⟨u,h6,h7⟩:=h2;obtain⟨d,k1,k2⟩:=bL hE h6;have k3:=dn (tt:=tt) (t:=t) k2;rw[h7]at k3;cases d<;>simp only[RT]at k3;obtain⟨k5,rfl⟩:=k3;exact⟨_,by simp only[af,ho,h1,k1,qV hE h3,h4,and_self,if_true];rfl,by simp only[RT];exact⟨k5,trivial⟩⟩;cases h;rename_i k s ag sz z e l j off n h1 h2 h3;split at h;rename_i h4;cases h;simp only[ah]at h2;obtain⟨u,h6,h7⟩:=h2;obtain⟨d,k1,k2⟩:=bL hE h6;have k3:=dn (tt:=tt) (t:=t) k2;rw[h7]at k3;cases d<;>simp only[RT]at k3;obtain⟨k5,rfl,rfl,k6⟩:=k3;exact⟨_,by simp only[af,ho,h1,k1,qV hE h3,h4,and_self,if_true];rfl,by simp only[RT];exact⟨k5,trivial,trivial,k6⟩⟩;cases h;cases h
 |index t x i=>simp only[bX,ho]at h;split at h;rename_i k s ag sz z l n h1 h2 h3;split at h;rename_i h5;simp only[ah,aA]at h;obtain⟨w,h4,rfl,-⟩:=h;obtain⟨d,k1,k2⟩:=bL hE h2;cases d<;>simp only[RT]at k2;obtain⟨r,k3,k4⟩:=sB k2 h4;exact⟨r,by simp only[af,ho,h1,k1,qV hE h3,h5,and_self,if_true,k3,az],k4⟩;cases h;cases h
 |extract t i=>simp only[bX,ho]at h;split at h;rename_i l h1;simp only[ah,aA]at h;obtain⟨w,h4,rfl,-⟩:=h;obtain⟨d,k1,k2⟩:=bL hE h1;cases d<;>simp only[RT]at k2;obtain⟨r,k3,k4⟩:=wh k2 h4;exact⟨r,by simp only[af,ho,k1,k3,az],dn k4⟩;cases h
 |call cl=>
  obtain⟨callee,args,argTypes⟩:=cl;cases callee with
  |builtin b=>simp only[bX,ho]at h;split at h;rename_i x t ha ht;split at h;rename_i e s mh ag sz z k l ap h1 h2;cases h;simp only[ah]at h2;obtain⟨u,h6,h7⟩:=h2;obtain⟨d,k1,k2⟩:=bL hE h6;have k3:=dn (tt:=tt) (t:=t) k2;rw[h7]at k3;cases d<;>simp only[RT]at k3;exact⟨_,by simp only[af,ho,ha,ht,h1,k1];rfl,by simp only[RT];rw[kZ k3.1]⟩;rename_i n s ag sz z h1;cases h;exact⟨_,by simp only[af,ho,ha,ht,h1];rfl,by simp only[RT]⟩;rename_i w h2 hn2;simp only[ah,aA]at h h2;obtain⟨r,h4,rfl,-⟩:=h;obtain⟨u,h6,h7⟩:=h2;obtain⟨d,k1,k2⟩:=bL hE h6;have k3:=dn (tt:=tt) (t:=t) k2;rw[h7]at k3;cases d<;>simp only[RT]at k3;subst k3;obtain⟨d,k5,k6⟩:=vX (ι:=ι) (S:=S) h4;exact⟨d,by simp only[af,ho,ha,ht,k1,k5,az],k6⟩;cases h;split at h;rename_i vs h1;simp only[ah,aA]at h;obtain⟨r,h4,rfl,-⟩:=h;simp only[mP]at h1;obtain⟨us,h5,h6⟩:=h1;obtain⟨ds,k1,k2⟩:=tD hE h5;obtain⟨d,k5,k6⟩:=vX (ι:=ι) (S:=S) h4;exact⟨d,by simp only[af,ho,k1,dc,ya k2 h6,k5,az],k6⟩;cases h;split at h;rename_i vs h1;simp only[ah,aA]at h;obtain⟨r,h4,rfl,-⟩:=h;simp only[mP]at h1;obtain⟨us,h5,h6⟩:=h1;obtain⟨ds,k1,k2⟩:=tD hE h5;obtain⟨d,k5,k6⟩:=vX (ι:=ι) (S:=S) h4;exact⟨d,by simp only[af,ho,k1,dc,ya k2 h6,k5,az],k6⟩;cases h;cases h
  |_=>simp only[bX,ho]at h;cases h
 |_=>simp only[bX,ho]at h;cases h
end Go.Tv
