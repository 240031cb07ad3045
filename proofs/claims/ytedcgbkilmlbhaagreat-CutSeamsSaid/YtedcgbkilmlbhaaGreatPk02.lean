import Derived.Test.YtedcgbkilmlbhaaGreatPk01
section
namespace Go.Tv
open Go Go.Di
def TV.cells:TV→List TV
 | .agg l=>l
 | v=>[v]
def TV.known:TV→Bool
 | .unk=>false
 | _=>true
def TV.BL:TV→Bool
 | .unk | .gd _=>false
 | _=>true
def wL:DV→TV
 | .val v => .val v
 | .sl [] none ⟨true,some true⟩ => .gq
 | _ => .unk
def Zw:DV→TV
 | .agg l => .agg (l.map wL)
 | .fn f [] [] => .fn f [] []
 | d=>wL d
inductive TB where
 | none
 | cells (l:List TV)
 | own (e s:Nat)
 | map (kt:TT) (l:List kt.den)
 | rows (t:TT) (e:Nat) (l:List t.den) (z:Bool)
instance:Inhabited TB:=⟨.none⟩
section
variable (P:Program) (ty:ir) (tt:TypeId→Option TT)
def iK (te:List TV):Operand→Option TV
 | .tmp t=>some (te.getD t .unk)
 | .const v=>(zi v).map Zw
 | .func f=>some (.fn f [] [])
 | .global _=>none
def oH (te:List TV):List Operand→Option (List TV)
 | []=>some []
 | x::l=>match iK te x,oH te l with
  | some d,some r=>some (d::r)
  | _,_=>none
def yl (te:List TV):List (Nat×Operand)→Option (List (Nat×TV))
 | []=>some []
 | (i,x)::l=>match iK te x,yl te l with
  | some d,some r=>some ((i,d)::r)
  | _,_=>none
def iL:List TV→Option (List Value)
 | []=>some []
 | .val v::l=>(iL l).map (v::·)
 | _=>none
def iT:TV→Option Value
 | .val v=>some v
 | .agg l=>(iL l).map fun r => .agg r.toArray
 | _=>none
def wX:List TV→Option (List Value)
 | []=>some []
 | d::l=>match iT d,wX l with
  | some v,some r=>some (v::r)
  | _,_=>none
def GU (te:List TV) (x:Operand):Option Int :=
 match iK te x with
 | some (.val (.int _ n))=>some n
 | _=>none
def j6 (t:TypeId) (v:TV):TV :=
 match v with
 | .gq=>match tt t with
  | some (.sl e) => .sl e [] .full
  | _ => .gq
 | v=>v
def Z5 (l:List TV) (off n:Nat):Option (List TV):=if off+n≤l.length then some ((l.drop off).take n) else none
def PY (l:List TV) (off:Nat) (cs:List TV):Option (List TV):=if off+cs.length≤l.length then some (l.take off++cs++l.drop (off+cs.length)) else none
def zf (agg:Bool) (size:Nat) (l:List TV) (off:Nat):Option TV:=if agg then (Z5 l off size).map .agg else l[off]?
def Hy (place:Nat→Option (Nat×Nat)) (cs:List TV):List (Nat×TV)→Option (List TV)
 | []=>some cs
 | (i,v)::r=>match place i with
  | none=>none
  | some (off,size)=>if v.known&&v.cells.length==size then match PY cs off v.cells with
    | some jH=>Hy place jH r
    | none=>none
   else none
def wE:Option DV→Option TV
 | some (.val v)=>some (.val v)
 | _=>none
def BI (t:TT) (i:Nat):List (Nat×TV)→Option (List t.den)
 | []=>some []
 | (j,v)::r=>if j==i&&v.BL then match t.of v.cells,BI t (i+1) r with
   | some (x,[]),some l=>some (x::l)
   | _,_=>none
  else none
def Qp (t:Bool):Option TV→Option TV→Option TV
 | some (.val (.bool x)),some (.val (.bool y))=>some (.val (.bool (bif t then x else y)))
 | some (.val (.int k x)),some (.val (.int k' y))=>if k'=k then some (.val (.int k (bif t then x else y))) else none
 | a,b=>match t with
  | true=>a
  | false=>b
def BM (te:List TV):Option Operand→Option (Option Int)
 | none=>some none
 | some x=>(GU te x).map some
def afz (o:Option Int) (ez:Nat):Prop :=
 match o with
 | none=>True
 | some n=>0≤n∧n≤(ez:Int)
def Rg (t:TT) (l:List t.den) (lo hi mx:Option Int):TV×Prop :=
 match mx with
 | none=>match hi with
  | none=>match lo with
   | none=>(.sl t l .no,True)
   | some a=>(.sl t (l.drop a.toNat) .no,0≤a∧a≤(l.length:Int))
  | some h=>match lo with
   | none=>(.sl t (l.take h.toNat) .no,0≤h∧h≤(l.length:Int))
   | some a=>(.sl t ((l.take h.toNat).drop a.toNat) .no,0≤a∧a≤h∧h≤(l.length:Int))
 | some m=>match hi with
  | none=>(.unk,False)
  | some h=>match lo with
   | none=>(.sl t (l.take h.toNat) .full,0≤h∧h=m∧h≤(l.length:Int))
   | some a=>(.sl t ((l.take h.toNat).drop a.toNat) .full,0≤a∧a≤h∧h=m∧h≤(l.length:Int))
def bX (te:List TV) (tS:List TB) (o:Oper):Option (TV×Prop) :=
 match o.op with
 | .move x | .assign x=>(iK te x).map fun v=>(j6 tt o.type v,True)
 | .pick c a b=>match iK te c with
  | some (.val (.bool t))=>(Qp t (iK te a) (iK te b)).map (·,True)
  | _=>none
 | .build t ps=>match ty t,yl te ps.toList with
  | some ⟨.struct fs,_,some z⟩,some l=>(Hy (fun i=>(fs[i]?).map fun f=>(f.1,f.2.1)) (z.map wL) l).map fun cs=>(.agg cs,True)
  | some ⟨.array _ s _,_,some z⟩,some l=>(Hy (fun i=>some (i*s,s)) (z.map wL) l).map fun cs=>(.agg cs,True)
  | _,_=>none
 | .buildSlice t n ps=>match ty t,yl te ps.toList,tt t with
  | some ⟨.slice e s _ agg,_,_⟩,some l,some (.sl k)=>match ty e with
   | some ⟨_,_,some z⟩=>if decide (0<s)&&decide (n*s≤16777216)&&l.length==n&&z.length==s&&k.size==s&&k.agg==agg&&(agg||s==1)&&ty.h o !=1 then
     (BI k 0 l).map fun l=>(.sl k l .full,True)
    else none
   | _=>none
  | _,_,_=>none
 | .load t a=>match ty t,iK te a with
  | some d,some (.ptr id off)=>match tS[id]? with
   | some (.cells l)=>(zf d.k.isAgg d.size l off).map fun v=>(j6 tt t v,True)
   | _=>none
  | some d,some (.eL e l i off)=>(zf d.k.isAgg d.size (e.cells (l.getD i e.Zi)) off).map fun v=>(j6 tt t v,True)
  | _,_=>none
 | .nilCheck x=>match iK te x with
  | some (.ptr id off)=>some (.ptr id off,True)
  | _=>none
 | .binOp op t x y _=>match (iK te x).bind iT,(iK te y).bind iT with
  | some a,some b=>(wE (jU P (do eqGuard op t x y a b; binOp op t a b))).map (·,True)
  | _,_=>none
 | .unOp op _ x=>match (iK te x).bind iT with
  | some a=>(wE (jU P (Op.unary op a))).map (·,True)
  | none=>none
 | .convert s d x=>match (iK te x).bind iT with
  | some a=>(wE (jU P (Go.convert s d a))).map (·,True)
  | none=>none
 | .makeFunc (.func f) fs cs=>match oH te fs.toList,oH te cs.toList with
  | some a,some b=>some (.fn f a b,True)
  | _,_=>none
 | .slice t x lo hi mx=>match ty t,(iK te x).map (j6 tt t),BM te lo,BM te hi,BM te mx with
  | some ⟨.slice _ s _ _,_,_⟩,some (.sl k l _),some lo,some hi,some mx=>if k.size==s then some (Rg k l lo hi mx) else none
  | _,_,_,_,_=>none
 | .fieldAddr t x f=>match ty t,iK te x with
  | some ⟨.struct fs,_,_⟩,some (.ptr id off)=>match fs[f]? with
   | some (o,s,_)=>if 0<s then some (.ptr id (off+o),True) else none
   | none=>none
  | some ⟨.struct fs,_,_⟩,some (.eL k l i off)=>match fs[f]? with
   | some (o,s,_)=>if 0<s then some (.eL k l i (off+o),True) else none
   | none=>none
  | _,_=>none
 | .field t x f=>match ty t,iK te x with
  | some ⟨.struct fs,_,_⟩,some (.agg l)=>match fs[f]? with
   | some (off,s,agg)=>(zf agg s l off).map (·,True)
   | none=>none
  | _,_=>none
 | .indexAddr t x i=>match ty t,(iK te x).map (j6 tt t),GU te i with
  | some ⟨.slice _ s _ _,_,_⟩,some (.sl k l _),some n=>if k.size==s then some (.eL k l n.toNat 0,0≤n∧n<(l.length:Int)) else none
  | some ⟨.array k s _,_,_⟩,some (.ptr id off),some n=>if 0≤n∧n.toNat<k then some (.ptr id (off+n.toNat*s),True) else none
  | some ⟨.array k s _,_,_⟩,some (.eL e l j off),some n=>if 0≤n∧n.toNat<k then some (.eL e l j (off+n.toNat*s),True) else none
  | _,_,_=>none
 | .index t x i=>match ty t,iK te x,GU te i with
  | some ⟨.array k s agg,_,_⟩,some (.agg l),some n=>if 0≤n∧n.toNat<k then (zf agg s l (n.toNat*s)).map (·,True) else none
  | _,_,_=>none
 | .extract t i=>match iK te t with
  | some (.gd l)=>(l[i]?).map fun v=>(j6 tt o.type v,True)
  | _=>none
 | .call { callee := .builtin b,args,argTypes }=>match b,args.toList,argTypes.toList with
  | .len,[x],[t]=>match ty t,(iK te x).map (j6 tt t) with
   | some ⟨.slice _ _ _ _,_,_⟩,some (.sl _ l _)=>some (.val (.int .i64 (l.length:Nat)),True)
   | some ⟨.array n _ _,_,_⟩,_=>some (.val (.int .i64 n),True)
   | _,some (.val v)=>(wE (jU P (Builtin.len_ #[t] o.type #[v]))).map (·,True)
   | _,_=>none
  | .min,xs,_=>match (oH te xs).bind wX with
   | some vs=>(wE (jU P (Builtin.min_ argTypes o.type vs.toArray))).map (·,True)
   | none=>none
  | .max,xs,_=>match (oH te xs).bind wX with
   | some vs=>(wE (jU P (Builtin.max_ argTypes o.type vs.toArray))).map (·,True)
   | none=>none
  | _,_,_=>none
 | _=>none
end
section
variable {P:Program} {ty:ir} {tt:TypeId→Option TT} {ι:mm} {S:ax} {te:List TV} {env:List DV} {tS:List TB}
theorem sP {v:TV} {d:DV} (hk:v.known=true) (h:RT ι S v d):dw ι S v.cells d.cells:=by
 cases v<;>cases d<;>simp only[RT] at h<;>first | (cases hk; done) | exact h | (refine gf ?_; simp only[RT]; exact h)
theorem Rm (d:DV):RT ι S (wL d) d:=by
 unfold wL
 split<;>simp[RT]
theorem tG:∀ l:List DV,dw ι S (l.map wL) l
 | []=>cF
 | d::l=>aP (Rm d) (tG l)
theorem acT (d:DV):RT ι S (Zw d) d:=by
 unfold Zw
 split
 ·simp only[RT]; exact tG _
 ·simp only[RT,dw,and_true]
 ·exact Rm _
theorem bC (h:dw ι S te env) {x:Operand} {v:TV} (hx:iK te x=some v):∃ d,jb env x=some d∧RT ι S v d:=by
 cases x with
 | tmp t=>cases hx; exact⟨_,rfl,sO h t⟩
 | const u =>
  simp only[iK,ai] at hx
  obtain⟨d,h1,rfl⟩:=hx
  exact⟨d,h1,acT d⟩
 | func f=>cases hx; exact⟨_,rfl,by simp only[RT,dw,and_true]⟩
 | global g=>cases hx
theorem tN (h:dw ι S te env):∀ {xs:List Operand} {vs:List TV},oH te xs=some vs→∃ ds,evs (jb env) xs=some ds∧dw ι S vs ds
 | [],_,hx=>by cases hx; exact⟨[],rfl,cF⟩
 | x::l,vs,hx=>by
  simp only[oH] at hx
  split at hx
  ·rename_i d r h1 h2
   cases hx
   obtain⟨d',k1,k2⟩:=bC h h1
   obtain⟨ds,k3,k4⟩:=tN h h2
   exact⟨d'::ds,by simp only[evs,k1,k3],aP k2 k4⟩
  ·cases hx
def BQ (ι:mm) (S:ax):List (Nat×TV)→List (Nat×DV)→Prop
 | [],[]=>True
 | (i,v)::l,(j,d)::m=>(j=i∧RT ι S v d)∧BQ ι S l m
 | _,_=>False
theorem qn (h:dw ι S te env):∀ {xs:List (Nat×Operand)} {vs:List (Nat×TV)},yl te xs=some vs→∃ ds,j7 (jb env) xs=some ds∧BQ ι S vs ds
 | [],_,hx=>by cases hx; exact⟨[],rfl,trivial⟩
 | (i,x)::l,vs,hx=>by
  simp only[yl] at hx
  split at hx
  ·rename_i d r h1 h2
   cases hx
   obtain⟨d',k1,k2⟩:=bC h h1
   obtain⟨ds,k3,k4⟩:=qn h h2
   exact⟨(i,d')::ds,by simp only[j7,k1,k3],⟨rfl,k2⟩,k4⟩
  ·cases hx
theorem zG:∀ {l:List TV} {m:List DV} {vs:List Value},dw ι S l m→iL l=some vs→qI m=some vs
 | [],m,vs,h,hx=>by rw[aU h]; exact hx
 | a::l,m,vs,h,hx=>by
  obtain⟨d,m',rfl,h1,h2⟩:=aj h
  unfold iL at hx
  split at hx
  ·rename_i e; cases e
  ·rename_i v l' e
   cases e
   simp only[ai] at hx
   obtain⟨r,h3,rfl⟩:=hx
   cases d<;>simp only[RT] at h1
   subst h1
   simp only[qI,zG h2 h3,Option.map_some]
  ·cases hx
theorem Ea {v:TV} {d:DV} {u:Value} (h:RT ι S v d) (hx:iT v=some u):y9 d=some u:=by
 unfold iT at hx
 split at hx
 ·cases hx
  cases d<;>simp only[RT] at h
  subst h
  rfl
 ·simp only[ai] at hx
  obtain⟨r,h1,rfl⟩:=hx
  cases d<;>simp only[RT] at h
  simp only[y9,zG h h1,Option.map_some]
 ·cases hx
theorem vG:∀ {l:List TV} {m:List DV} {vs:List Value},dw ι S l m→wX l=some vs→sG m=some vs
 | [],m,vs,h,hx=>by rw[aU h]; exact hx
 | a::l,m,vs,h,hx=>by
  obtain⟨d,m',rfl,h1,h2⟩:=aj h
  simp only[wX] at hx
  split at hx
  ·rename_i v r e1 e2
   cases hx
   simp only[sG,Ea h1 e1,vG h2 e2]
  ·cases hx
theorem fZ (h:dw ι S te env) {x:Operand} {u:Value} (hx:(iK te x).bind iT=some u):valOf (jb env) x=some u:=by
 cases h1:iK te x with
 | none=>rw[h1] at hx; cases hx
 | some v =>
  rw[h1] at hx
  obtain⟨d,h2,h3⟩:=bC h h1
  simp only[valOf,h2,Option.bind_some]
  exact Ea h3 hx
theorem oU (h:dw ι S te env) {x:Operand} {n:Int} (hx:GU te x=some n):intOf (jb env) x=some n:=by
 unfold GU at hx
 split at hx
 ·rename_i k m h1
  cases hx
  obtain⟨d,h2,h3⟩:=bC h h1
  cases d<;>simp only[RT] at h3
  subst h3
  simp only[intOf,h2]
 ·cases hx
theorem cN {t:TypeId} {v:TV} {d:DV} (h:RT ι S v d):RT ι S (j6 tt t v) d:=by
 unfold j6
 split
 ·split
  ·cases d<;>simp only[RT] at h
   obtain⟨rfl,rfl,rfl⟩:=h
   simp only[RT,eN,uL,and_self]
  ·exact h
 ·exact h
theorem Xj {l:List TV} {m:List DV} (h:dw ι S l m) {off n:Nat} {r:List TV} (hx:Z5 l off n=some r):∃ r',Qd m off n=some r'∧dw ι S r r':=by
 unfold Z5 at hx
 split at hx
 ·cases hx
  rename_i hle
  exact⟨_,if_pos (by rw[iB h]; exact hle),BX _ (BZ _ h)⟩
 ·cases hx
theorem FW {l:List TV} {m:List DV} (h:dw ι S l m) {cs:List TV} {ds:List DV} (hc:dw ι S cs ds) {off:Nat} {r:List TV} (hx:PY l off cs=some r):∃ r',uA m off ds=some r'∧dw ι S r r':=by
 unfold PY at hx
 split at hx
 ·cases hx
  rename_i hle
  refine⟨_,if_pos (by rw[iB h,iB hc]; exact hle),fB (fB (BX _ h) hc) ?_⟩
  rw[iB hc]
  exact BZ _ h
 ·cases hx
theorem qf {l:List TV} {m:List DV} (h:dw ι S l m) {agg:Bool} {size off:Nat} {r:TV} (hx:zf agg size l off=some r):∃ r',ng agg size m off=some r'∧RT ι S r r':=by
 unfold zf at hx
 split at hx
 ·rename_i ha
  simp only[ai] at hx
  obtain⟨r1,h1,rfl⟩:=hx
  obtain⟨r',h2,h3⟩:=Xj h h1
  exact⟨.agg r',by simp only[ng,ha,if_true,h2,Option.map_some],by simp only[RT]; exact h3⟩
 ·rename_i ha
  obtain⟨d,h1,h2⟩:=tH h hx
  exact⟨d,by simp only[ng,ha,h1]; rfl,h2⟩
theorem Cf {place:Nat→Option (Nat×Nat)}:∀ {ps:List (Nat×TV)} {qs:List (Nat×DV)} {l:List TV} {m:List DV} {r:List TV},BQ ι S ps qs→dw ι S l m→Hy place l ps=some r→∃ r',kH place m qs=some r'∧dw ι S r r'
 | [],[],l,m,r,_,h,hx=>by cases hx; exact⟨m,rfl,h⟩
 | (i,v)::ps,(j,d)::qs,l,m,r,hp,h,hx=>by
  obtain⟨⟨rfl,hv⟩,hp⟩:=hp
  simp only[Hy] at hx
  split at hx
  ·cases hx
  ·rename_i off size yY
   split at hx
   ·rename_i hc
    simp only[aI,ek] at hc
    have oJ:=sP hc.1 hv
    split at hx
    ·rename_i jH nW
     obtain⟨m',h1,h2⟩:=FW h oJ nW
     obtain⟨r',h3,h4⟩:=Cf hp h2 hx
     refine⟨r',?_,h4⟩
     simp only[kH,yY,iB oJ,hc.2,if_true,h1,h3]
    ·cases hx
   ·cases hx
theorem tD {o:Option DV} {v:TV} (h:wE o=some v):∃ d,o=some d∧RT ι S v d:=by
 unfold wE at h
 split at h
 ·cases h; exact⟨_,rfl,by simp only[RT]⟩
 ·cases h
theorem SY {t:Bool} {a b:Option TV} {v:TV} {a' b':Option DV} (ha:∀ v,a=some v→∃ d,a'=some d∧RT ι S v d) (hb:∀ v,b=some v→∃ d,b'=some d∧RT ι S v d) (h:Qp t a b=some v):∃ d,(if t then a' else b')=some d∧RT ι S v d:=by
 unfold Qp at h
 split at h
 ·cases h
  obtain⟨d,h1,h2⟩:=ha _ rfl
  obtain⟨e,h3,h4⟩:=hb _ rfl
  cases t
  ·exact⟨e,h3,h4⟩
  ·exact⟨d,h1,h2⟩
 ·split at h
  ·rename_i hk
   subst hk
   cases h
   obtain⟨d,h1,h2⟩:=ha _ rfl
   obtain⟨e,h3,h4⟩:=hb _ rfl
   cases t
   ·exact⟨e,h3,h4⟩
   ·exact⟨d,h1,h2⟩
  ·cases h
 ·split at h
  ·exact ha _ h
  ·exact hb _ h
end
end Go.Tv
end
section
namespace Go.Tv
open Go Go.Di
variable {P:Program} {ty:ir} {tt:TypeId→Option TT} {ι:mm} {S:ax} {te:List TV} {env:List DV} {tS:List TB} {aM:bV} {call:bP} {yf:fI} {o:Oper} {aH:Nat} {v:TV} {c:Prop}
def Kl (ι:mm) (S:ax) (tS:List TB):Prop:=∀ k l,tS[k]? = some (.cells l)→∃ k' ds,ι k=some k'∧S[k']? = some (.cells ds)∧dw ι S l ds
theorem WS (hE:dw ι S te env) (hP:Kl ι S tS) {t:TypeId} {a:Operand} (ho:o.op = .load t a) (h:bX P ty tt te tS o=some (v,c)):∃ d,ah P ty aM call yf (jb env) o S aH=some (d,S)∧RT ι S v d:=by
 simp only[bX,ho] at h
 split at h
 ·rename_i td id off h1 h2
  split at h
  ·rename_i l h3
   simp only[ai,ay] at h
   obtain⟨w,h4,rfl,-⟩:=h
   obtain⟨d,k1,k2⟩:=bC hE h2
   obtain⟨jE,ds,k3,k4,k5⟩:=hP _ _ h3
   cases d<;>simp only[RT] at k2
   obtain⟨k6,rfl⟩:=k2
   rw[k3] at k6
   cases k6
   obtain⟨r,k7,k8⟩:=qf k5 h4
   exact⟨r,by simp only[ah,ho,k1,kg,h1,k4,k7,Option.map_some],cN k8⟩
  ·cases h
 ·rename_i td e l i off h1 h2
  simp only[ai,ay] at h
  obtain⟨w,h4,rfl,-⟩:=h
  obtain⟨d,k1,k2⟩:=bC hE h2
  cases d<;>simp only[RT] at k2
  obtain⟨k3,rfl,rfl,k4⟩:=k2
  obtain⟨r,m1,m2,-⟩:=B1 k3 (bH k4)
  rename_i j j'
  have hg:l.getD j e.Zi=l[j]:=by simp[aN,k4]
  rw[hg] at h4
  obtain⟨r',m3,m4⟩:=qf (oz (ι:=ι) (S:=S) m2) h4
  exact⟨r',by simp only[ah,ho,k1,kg,h1,m1,m3,Option.map_some],cN m4⟩
 ·cases h
def D7 (t:TT):Nat→List (Nat×DV)→List t.den→Prop
 | _,[],[]=>True
 | i,(j,d)::qs,x::l=>(j=i∧CR t x d.strip.cells)∧D7 t (i+1) qs l
 | _,_,_=>False
theorem IU {v:TV} {d:DV} (hk:v.BL=true) (h:RT ι S v d):d.strip.cells=d.cells.map DV.aV:=by
 cases v<;>cases d<;>simp only[RT] at h<;>first | (cases hk; done) | rfl
theorem Ir {v:TV} (hk:v.BL=true):v.known=true:=by cases v<;>first | rfl | cases hk
theorem Cj {t:TT}:∀ {ps:List (Nat×TV)} {qs:List (Nat×DV)} {i:Nat} {l:List t.den},BQ ι S ps qs→BI t i ps=some l→D7 t i qs l∧l.length=ps.length
 | [],[],i,l,_,h=>by cases h; exact⟨trivial,rfl⟩
 | (j,v)::ps,(j',d)::qs,i,l,hp,h=>by
  obtain⟨⟨rfl,hv⟩,hp⟩:=hp
  simp only[BI] at h
  split at h
  ·rename_i hc
   simp only[aI,ek] at hc
   obtain⟨rfl,hk⟩:=hc
   split at h
   ·rename_i x l' h1 h2
    cases h
    obtain⟨cs,m',e1,e2,e3⟩:=DU h1 (sP (Ir hk) hv)
    rw[aU e3,ff] at e1
    obtain⟨k1,k2⟩:=Cj hp h2
    exact⟨⟨⟨rfl,by rw[IU hk hv,e1]; exact e2⟩,k1⟩,by simp[k2]⟩
   ·cases h
  ·cases h
def jo (qs:List (Nat×DV)):List DV:=qs.flatMap fun q=>q.2.strip.cells
theorem we {t:TT} {s:Nat} (hs:t.size=s):∀ {qs:List (Nat×DV)} {i:Nat} {l:List t.den} {pre post:List DV},D7 t i qs l→pre.length=i*s→post.length=qs.length*s →
  kH (fun i=>some (i*s,s)) (pre++post) (qs.map fun(i,v)=>(i,v.strip))=some (pre++jo qs)
 | [],i,[],pre,post,_,hp,hq=>by
  have:post=[]:=eF (by simpa using hq)
  subst this
  simp[kH,jo]
 | (j,d)::qs,i,x::l,pre,post,h,hp,hq=>by
  obtain⟨⟨rfl,hc⟩,h⟩:=h
  have hl:d.strip.cells.length=s:=(mU hc).trans hs
  have Jv:post.length=qs.length*s+s:=by rw[hq,List.length_cons,jL,Nat.one_mul]
  have nW:uA (pre++post) (j*s) d.strip.cells=some ((pre++d.strip.cells)++post.drop s):=by
   unfold uA
   rw[if_pos (by rw[b9,hp,hl]; omega),hl,← hp,List.take_left' rfl,List.drop_append,jN (by omega)]
   simp
  simp only[bQ,kH,hl,if_true,nW]
  rw[we hs h (by rw[b9,hp,hl,jL,Nat.one_mul]) (by rw[List.length_drop,Jv]; omega)]
  simp[jo]
theorem row_one {t:TT} {x:t.den} {cs:List DV} (h:CR t x cs) (ha:t.agg=false):CR t x (cs.getD 0 bh).cells∧wU t.agg (cs.getD 0 bh):=by
 cases t with
 | unit | pair=>cases ha
 | sl t =>
  simp only[CR] at h
  obtain⟨rows,f,rfl,h⟩:=h
  exact⟨by simp only[CR,List.getD_cons_zero,DV.cells]; exact⟨rows,f,rfl,h⟩,by simp[wU,TT.agg]⟩
 | _ =>
  simp only[CR] at h
  subst h
  exact⟨by simp only[CR,List.getD_cons_zero,DV.cells],by simp[wU,TT.agg]⟩
theorem zL {s:Nat} {agg:Bool} {c r:List DV} {n:Nat} (hc:c.length=s):rowsOf s agg (c++r) (n+1)=(if agg then .agg c else (c++r).getD 0 bh)::rowsOf s agg r n:=by
 unfold rowsOf
 rw[List.range_succ_eq_map,bQ,List.map_map]
 congr 1
 ·unfold rowOf
  split
  ·rw[Nat.zero_mul,mz,List.take_left' hc]
  ·rw[Nat.zero_mul]
 ·refine List.map_congr_left fun i _ => ?_
  simp only[Function.comp,rowOf,Nat.succ_eq_add_one,jL,Nat.one_mul]
  rw[Nat.add_comm (i*s) s,← hc,List.drop_append,jN (Nat.le_add_right _ _),o6,List.nil_append,aN,aN,gF (Nat.le_add_right _ _),o6]
theorem CB {t:TT} {s:Nat} (hs:t.size=s) (h1:t.agg=true∨s=1):∀ {qs:List (Nat×DV)} {i:Nat} {l:List t.den},D7 t i qs l→eN (CR t) t.agg l (rowsOf s t.agg (jo qs) l.length)
 | [],_,[],_=>by simp[rowsOf,eN]
 | (j,d)::qs,i,x::l,h=>by
  obtain⟨⟨rfl,hc⟩,h⟩:=h
  have hl:d.strip.cells.length=s:=(mU hc).trans hs
  have e:jo ((j,d)::qs)=d.strip.cells++jo qs:=by simp[jo]
  rw[e,List.length_cons,zL hl]
  refine⟨?_,CB hs h1 h⟩
  cases ha:t.agg with
  | true=>exact⟨hc,by simp[wU]⟩
  | false =>
   have:=row_one hc ha
   rw[ha] at this
   have h2:0<d.strip.cells.length:=by rw[hl]; rcases h1 with h1 | h1<;>first | (rw[ha] at h1; cases h1; done) | omega
   have e2:(d.strip.cells++jo qs).getD 0 bh=d.strip.cells.getD 0 bh:=by
    simp only[aN,fq h2]
   simp only[aF,if_false]
   rw[e2]
   exact this
theorem vM {t:TT}:∀ {qs:List (Nat×DV)} {i:Nat} {l:List t.den},D7 t i qs l→(jo qs).all DV.ck=true
 | [],_,[],_=>rfl
 | (j,d)::qs,i,x::l,h=>by
  obtain⟨⟨rfl,hc⟩,h⟩:=h
  have e:jo ((j,d)::qs)=d.strip.cells++jo qs:=by simp[jo]
  rw[e,mA,qM hc,vM h]; rfl
theorem yK:∀ {ps:List (Nat×TV)} {qs:List (Nat×DV)},BQ ι S ps qs→qs.length=ps.length
 | [],[],_=>rfl
 | _::ps,_::qs,h=>by simp[yK h.2]
theorem Dy (hE:dw ι S te env) {t:TypeId} {n:Nat} {ps:Array (Nat×Operand)} (ho:o.op = .buildSlice t n ps) (h:bX P ty tt te tS o=some (v,c)):∃ d,ah P ty aM call yf (jb env) o S aH=some (d,S)∧RT ι S v d:=by
 simp only[bX,ho] at h
 split at h
 ·rename_i e s lK agg sz z0 l k h1 h2 h3
  split at h
  ·rename_i k0 sz' z h4
   split at h
   ·rename_i hc
    simp only[aI,ek,iZ,bJ] at hc
    obtain⟨⟨⟨⟨⟨⟨⟨c1,c2⟩,c3⟩,c4⟩,c5⟩,c6⟩,c7⟩,c8⟩:=hc
    have c8:ty.h o≠1:=by simpa using c8
    simp only[ai,ay] at h
    obtain⟨w,h5,rfl,-⟩:=h
    obtain⟨ds,k1,k2⟩:=qn hE h2
    obtain⟨k3,k4⟩:=Cj k2 h5
    have hlen:ds.length=n:=by rw[yK k2,c3]
    have ZJ:((List.replicate n z).flatten).length=ds.length*s:=by
     rw[hlen,List.length_flatten,List.map_replicate,c4,List.sum_replicate_nat]
    have hf:=we (pre:=[]) (post:=(List.replicate n z).flatten) c5 k3 (by simp) ZJ
    rw[List.nil_append,List.nil_append] at hf
    have hn:w.length=n:=by rw[k4,c3]
    have hr:=CB c5 (by rw[c6]; exact c7) k3
    rw[c6,hn] at hr
    have c7':(agg||s==1)=true:=by simpa using c7
    refine⟨.sl (rowsOf s agg (jo ds) n) none ⟨true,some false⟩,?_,?_⟩
    ·simp only[ah,ho,h1,k1,h4,gB c1,gB c2,gA,if_true,hf,vM k3,c7',c8]
    ·simp only[RT,uL,and_self,and_true]
     rw[c6]
     exact hr
   ·cases h
  ·cases h
 ·cases h
theorem Sl (hE:dw ι S te env) {t:TypeId} {x:Operand} {lo hi mx:Option Operand} (ho:o.op = .slice t x lo hi mx) (h:bX P ty tt te tS o=some (v,c)) (hc:c):∃ d,ah P ty aM call yf (jb env) o S aH=some (d,S)∧RT ι S v d:=by
 have hb:∀ {y:Option Operand} {b:Option Int},BM te y=some b→(y=none∧b=none)∨∃ z n,y=some z∧b=some n∧intOf (jb env) z=some n:=by
  intro y b hy
  cases y with
  | none=>cases hy; exact .inl ⟨rfl,rfl⟩
  | some z =>
   simp only[BM,ai] at hy
   obtain⟨n,h1,rfl⟩:=hy
   exact .inr ⟨z,n,rfl,rfl,oU hE h1⟩
 simp only[bX,ho] at h
 split at h
 ·rename_i e s lK agg sz z0 k l ap lo' C4 mx' h1 h2 h3 h4 h5
  split at h
  ·rename_i hs
   simp only[ek] at hs
   simp only[ai] at h2
   obtain⟨u,h6,h7⟩:=h2
   obtain⟨d,k1,k2⟩:=bC hE h6
   have k3:=cN (tt:=tt) (t:=t) k2
   rw[h7] at k3
   cases d<;>simp only[RT] at k3
   rename_i rows tok f
   obtain⟨k3,k4⟩:=k3
   have hlen:=lz k3
   have fA:(rows.all fun r=>decide (r.cells.length=s))=true:=bt.2 fun r hr=>gB ((jA k3 r hr).trans hs)
   simp only[aB] at h
   rcases hb h3 with ⟨rfl,rfl⟩ | ⟨zl,nl,rfl,rfl,el⟩<;>rcases hb h4 with ⟨rfl,rfl⟩ | ⟨zh,nh,rfl,rfl,eh⟩<;>rcases hb h5 with ⟨rfl,rfl⟩ | ⟨zm,nm,rfl,rfl,em⟩ <;>
    simp only[Rg,ay] at h<;>obtain⟨rfl,rfl⟩:=h
   ·exact⟨_,by simp only[ah,ho,h1,k1,fA,ic,gh,qC,if_true,gl,aF,if_false,Option.isNone,Option.isSome,kY,Option.map_none,Option.map_some]; rfl,by simp only[RT,uL,and_true,mz,fo]; exact k3⟩
   ·exact hc.elim
   ·have a1:0≤nh∧nh.toNat≤rows.length:=⟨hc.1,by rw[hlen]; omega⟩
    exact⟨_,by simp only[ah,ho,h1,k1,fA,ic,eh,a1,gh,qC,if_true,gl,aF,if_false,Option.isNone,Option.isSome,kY,Option.map_none,Option.map_some,and_self]; rfl,by simp only[RT,uL,and_true,mz]; exact qj _ k3⟩
   ·obtain⟨b1,rfl,b2⟩:=hc
    have a1:0≤nh∧nh.toNat≤rows.length:=⟨b1,by rw[hlen]; omega⟩
    exact⟨_,by simp only[ah,ho,h1,k1,fA,ic,eh,em,a1,gh,qC,if_true,gl,aF,if_false,Option.isNone,Option.isSome,Bool.and_true,Option.map_some,and_self,ak]; rfl,by simp only[RT,uL,and_true,mz,beq_self_eq_true]; exact qj _ k3⟩
   ·have a1:0≤nl∧nl.toNat≤rows.length:=⟨hc.1,by rw[hlen]; omega⟩
    exact⟨_,by simp only[ah,ho,h1,k1,fA,ic,el,a1,qC,if_true,gl,aF,if_false,Option.isNone,Option.isSome,kY,Option.map_none,Option.map_some,and_self]; rfl,by simp only[RT,uL,and_true,fo]; exact uc _ k3⟩
   ·exact hc.elim
   ·have a1:0≤nh∧nh.toNat≤rows.length:=⟨by omega,by rw[hlen]; omega⟩
    have a2:0≤nl∧nl.toNat≤nh.toNat:=⟨hc.1,by omega⟩
    exact⟨_,by simp only[ah,ho,h1,k1,fA,ic,eh,el,a1,a2,qC,if_true,gl,aF,if_false,Option.isNone,Option.isSome,kY,Option.map_none,Option.map_some,and_self]; rfl,by simp only[RT,uL,and_true]; exact uc _ (qj _ k3)⟩
   ·obtain⟨b0,b1,rfl,b2⟩:=hc
    have a1:0≤nh∧nh.toNat≤rows.length:=⟨by omega,by rw[hlen]; omega⟩
    have a2:0≤nl∧nl.toNat≤nh.toNat:=⟨b0,by omega⟩
    exact⟨_,by simp only[ah,ho,h1,k1,fA,ic,eh,el,em,a1,a2,qC,if_true,gl,aF,if_false,Option.isNone,Option.isSome,Bool.and_true,Option.map_some,and_self,ak]; rfl,by simp only[RT,uL,and_true,beq_self_eq_true]; exact uc _ (qj _ k3)⟩
  ·cases h
 ·cases h
theorem Ic (hE:dw ι S te env) (hP:Kl ι S tS) (h:bX P ty tt te tS o=some (v,c)) (hc:c):∃ d,ah P ty aM call yf (jb env) o S aH=some (d,S)∧RT ι S v d:=by
 cases ho:o.op with
 | load t a=>exact WS hE hP ho h
 | buildSlice t n ps=>exact Dy hE ho h
 | slice t x lo hi mx=>exact Sl hE ho h hc
 | move x | assign x =>
  simp only[bX,ho,ai,ay] at h
  obtain⟨u,h1,rfl,-⟩:=h
  obtain⟨d,k1,k2⟩:=bC hE h1
  exact⟨d,by simp only[ah,ho,k1,Option.map_some],cN k2⟩
 | pick a b d =>
  simp only[bX,ho] at h
  split at h
  ·rename_i t h1
   simp only[ai,ay] at h
   obtain⟨u,h2,rfl,-⟩:=h
   obtain⟨e,k1,k2⟩:=bC hE h1
   cases e<;>simp only[RT] at k2
   subst k2
   obtain⟨e,k3,k4⟩:=SY (fun v h=>bC hE h) (fun v h=>bC hE h) h2
   exact⟨e,by simp only[ah,ho,k1,k3,Option.map_some],k4⟩
  ·cases h
 | build t ps =>
  simp only[bX,ho] at h
  split at h
  ·rename_i fs sz z l h1 h2
   simp only[ai,ay] at h
   obtain⟨cs,h3,rfl,-⟩:=h
   obtain⟨ds,k1,k2⟩:=qn hE h2
   obtain⟨r,k3,k4⟩:=Cf k2 (tG _) h3
   exact⟨.agg r,by simp only[ah,ho,h1,k1,k3,Option.map_some],by simp only[RT]; exact k4⟩
  ·rename_i n s agg sz z l h1 h2
   simp only[ai,ay] at h
   obtain⟨cs,h3,rfl,-⟩:=h
   obtain⟨ds,k1,k2⟩:=qn hE h2
   obtain⟨r,k3,k4⟩:=Cf k2 (tG _) h3
   exact⟨.agg r,by simp only[ah,ho,h1,k1,k3,Option.map_some],by simp only[RT]; exact k4⟩
  ·cases h
 | nilCheck x =>
  simp only[bX,ho] at h
  split at h
  ·rename_i id off h1
   cases h
   obtain⟨d,k1,k2⟩:=bC hE h1
   cases d<;>simp only[RT] at k2
   exact⟨_,by simp only[ah,ho,k1]; rfl,by simp only[RT]; exact k2⟩
  ·cases h
 | binOp op t x y u =>
  simp only[bX,ho] at h
  split at h
  ·rename_i a b h1 h2
   simp only[ai,ay] at h
   obtain⟨w,h3,rfl,-⟩:=h
   obtain⟨d,k1,k2⟩:=tD (ι:=ι) (S:=S) h3
   exact⟨d,by simp only[ah,ho,fZ hE h1,fZ hE h2,k1,Option.map_some],k2⟩
  ·cases h
 | unOp op t x =>
  simp only[bX,ho] at h
  split at h
  ·rename_i a h1
   simp only[ai,ay] at h
   obtain⟨w,h3,rfl,-⟩:=h
   obtain⟨d,k1,k2⟩:=tD (ι:=ι) (S:=S) h3
   exact⟨d,by simp only[ah,ho,fZ hE h1,k1,Option.map_some],k2⟩
  ·cases h
 | convert s t x =>
  simp only[bX,ho] at h
  split at h
  ·rename_i a h1
   simp only[ai,ay] at h
   obtain⟨w,h3,rfl,-⟩:=h
   obtain⟨d,k1,k2⟩:=tD (ι:=ι) (S:=S) h3
   exact⟨d,by simp only[ah,ho,fZ hE h1,k1,Option.map_some],k2⟩
  ·cases h
 | makeFunc f fs cs =>
  cases f with
  | func f =>
   simp only[bX,ho] at h
   split at h
   ·rename_i a b h1 h2
    cases h
    obtain⟨d,k1,k2⟩:=tN hE h1
    obtain⟨e,k3,k4⟩:=tN hE h2
    exact⟨_,by simp only[ah,ho,k1,k3]; rfl,by simp only[RT]; exact⟨trivial,k2,k4⟩⟩
   ·cases h
  | _=>simp only[bX,ho] at h; cases h
 | fieldAddr t x f =>
  simp only[bX,ho] at h
  split at h
  ·rename_i fs sz z id off h1 h2
   split at h
   ·rename_i oo s ag h3
    split at h
    ·rename_i h4
     cases h
     obtain⟨d,k1,k2⟩:=bC hE h2
     cases d<;>simp only[RT] at k2
     obtain⟨k3,rfl⟩:=k2
     exact⟨_,by simp only[ah,ho,h1,k1,h3,h4,if_true]; rfl,by simp only[RT]; exact⟨k3,trivial⟩⟩
    ·cases h
   ·cases h
  ·rename_i fs sz z k l i off h1 h2
   split at h
   ·rename_i oo s ag h3
    split at h
    ·rename_i h4
     cases h
     obtain⟨d,k1,k2⟩:=bC hE h2
     cases d<;>simp only[RT] at k2
     obtain⟨k3,rfl,rfl,k4⟩:=k2
     exact⟨_,by simp only[ah,ho,h1,k1,h3,h4,if_true]; rfl,by simp only[RT]; exact⟨k3,trivial,trivial,k4⟩⟩
    ·cases h
   ·cases h
  ·cases h
 | field t x f =>
  simp only[bX,ho] at h
  split at h
  ·rename_i fs sz z l h1 h2
   split at h
   ·rename_i off s ag h3
    simp only[ai,ay] at h
    obtain⟨w,h4,rfl,-⟩:=h
    obtain⟨d,k1,k2⟩:=bC hE h2
    cases d<;>simp only[RT] at k2
    obtain⟨r,k3,k4⟩:=qf k2 h4
    exact⟨r,by simp only[ah,ho,h1,k1,h3,k3,Option.map_some],k4⟩
   ·cases h
  ·cases h
 | indexAddr t x i =>
  simp only[bX,ho] at h
  split at h
  ·rename_i e s lK ag sz z k l ap n h1 h2 h3
   split at h
   ·rename_i hs
    simp only[ek] at hs
    cases h
    simp only[ai] at h2
    obtain⟨u,h6,h7⟩:=h2
    obtain⟨d,k1,k2⟩:=bC hE h6
    have k3:=cN (tt:=tt) (t:=t) k2
    rw[h7] at k3
    cases d<;>simp only[RT] at k3
    obtain⟨k3,-⟩:=k3
    have hlt:n.toNat<l.length:=by omega
    obtain⟨r,m1,m2,-⟩:=B1 k3 (bH hlt)
    exact⟨_,by simp only[ah,ho,h1,k1,oU hE h3,hc.1,if_true,m1,(mU m2).trans hs]; rfl,by simp only[RT]; exact⟨k3,trivial,trivial,hlt⟩⟩
   ·cases h
  ·rename_i k s ag sz z id off n h1 h2 h3
   split at h
   ·rename_i h4
    cases h
    simp only[ai] at h2
    obtain⟨u,h6,h7⟩:=h2
    obtain⟨d,k1,k2⟩:=bC hE h6
    have k3:=cN (tt:=tt) (t:=t) k2
    rw[h7] at k3
    cases d<;>simp only[RT] at k3
    obtain⟨k5,rfl⟩:=k3
    exact⟨_,by simp only[ah,ho,h1,k1,oU hE h3,h4,and_self,if_true]; rfl,by simp only[RT]; exact⟨k5,trivial⟩⟩
   ·cases h
  ·rename_i k s ag sz z e l j off n h1 h2 h3
   split at h
   ·rename_i h4
    cases h
    simp only[ai] at h2
    obtain⟨u,h6,h7⟩:=h2
    obtain⟨d,k1,k2⟩:=bC hE h6
    have k3:=cN (tt:=tt) (t:=t) k2
    rw[h7] at k3
    cases d<;>simp only[RT] at k3
    obtain⟨k5,rfl,rfl,k6⟩:=k3
    exact⟨_,by simp only[ah,ho,h1,k1,oU hE h3,h4,and_self,if_true]; rfl,by simp only[RT]; exact⟨k5,trivial,trivial,k6⟩⟩
   ·cases h
  ·cases h
 | index t x i =>
  simp only[bX,ho] at h
  split at h
  ·rename_i k s ag sz z l n h1 h2 h3
   split at h
   ·rename_i h5
    simp only[ai,ay] at h
    obtain⟨w,h4,rfl,-⟩:=h
    obtain⟨d,k1,k2⟩:=bC hE h2
    cases d<;>simp only[RT] at k2
    obtain⟨r,k3,k4⟩:=qf k2 h4
    exact⟨r,by simp only[ah,ho,h1,k1,oU hE h3,h5,and_self,if_true,k3,Option.map_some],k4⟩
   ·cases h
  ·cases h
 | extract t i =>
  simp only[bX,ho] at h
  split at h
  ·rename_i l h1
   simp only[ai,ay] at h
   obtain⟨w,h4,rfl,-⟩:=h
   obtain⟨d,k1,k2⟩:=bC hE h1
   cases d<;>simp only[RT] at k2
   obtain⟨r,k3,k4⟩:=tH k2 h4
   exact⟨r,by simp only[ah,ho,k1,k3,Option.map_some],cN k4⟩
  ·cases h
 | call cl =>
  obtain⟨callee,args,argTypes⟩:=cl
  cases callee with
  | builtin b =>
   simp only[bX,ho] at h
   split at h
   ·rename_i x t ha ht
    split at h
    ·rename_i e s lK ag sz z k l ap h1 h2
     cases h
     simp only[ai] at h2
     obtain⟨u,h6,h7⟩:=h2
     obtain⟨d,k1,k2⟩:=bC hE h6
     have k3:=cN (tt:=tt) (t:=t) k2
     rw[h7] at k3
     cases d<;>simp only[RT] at k3
     exact⟨_,by simp only[ah,ho,ha,ht,h1,k1]; rfl,by simp only[RT]; rw[lz k3.1]⟩
    ·rename_i n s ag sz z h1
     cases h
     exact⟨_,by simp only[ah,ho,ha,ht,h1]; rfl,by simp only[RT]⟩
    ·rename_i w h2 hn2
     simp only[ai,ay] at h h2
     obtain⟨r,h4,rfl,-⟩:=h
     obtain⟨u,h6,h7⟩:=h2
     obtain⟨d,k1,k2⟩:=bC hE h6
     have k3:=cN (tt:=tt) (t:=t) k2
     rw[h7] at k3
     cases d<;>simp only[RT] at k3
     subst k3
     obtain⟨d,k5,k6⟩:=tD (ι:=ι) (S:=S) h4
     exact⟨d,by simp only[ah,ho,ha,ht,k1,k5,Option.map_some],k6⟩
    ·cases h
   ·split at h
    ·rename_i vs h1
     simp only[ai,ay] at h
     obtain⟨r,h4,rfl,-⟩:=h
     simp only[lq] at h1
     obtain⟨us,h5,h6⟩:=h1
     obtain⟨ds,k1,k2⟩:=tN hE h5
     obtain⟨d,k5,k6⟩:=tD (ι:=ι) (S:=S) h4
     exact⟨d,by simp only[ah,ho,k1,Option.bind_some,vG k2 h6,k5,Option.map_some],k6⟩
    ·cases h
   ·split at h
    ·rename_i vs h1
     simp only[ai,ay] at h
     obtain⟨r,h4,rfl,-⟩:=h
     simp only[lq] at h1
     obtain⟨us,h5,h6⟩:=h1
     obtain⟨ds,k1,k2⟩:=tN hE h5
     obtain⟨d,k5,k6⟩:=tD (ι:=ι) (S:=S) h4
     exact⟨d,by simp only[ah,ho,k1,Option.bind_some,vG k2 h6,k5,Option.map_some],k6⟩
    ·cases h
   ·cases h
  | _=>simp only[bX,ho] at h; cases h
 | _=>simp only[bX,ho] at h; cases h
end Go.Tv
end
section
namespace Go.Tv
open Go Go.Di
mutual
def Jo (g:Nat):TV→TV
 | .sl t l (.oE k)=>if k=g then .sl t l .no else .sl t l (.oE k)
 | .ptr id off=>if id=g then .unk else .ptr id off
 | .mp id=>if id=g then .unk else .mp id
 | .so id t=>if id=g then .unk else .so id t
 | .sp id t i off=>if id=g then .unk else .sp id t i off
 | .agg l => .agg (wI g l)
 | .gd l => .gd (wI g l)
 | .fn f a b => .fn f (wI g a) (wI g b)
 | v=>v
def wI (g:Nat):List TV→List TV
 | []=>[]
 | a::l=>Jo g a::wI g l
end
def rR (g:Nat):TB→TB
 | .cells l => .cells (wI g l)
 | b=>b
def sg (tS:List TB) (i:Nat) (b:TB):List TB:=if i<tS.length then tS.set i b else tS++[b]
def abV:TV→Bool
 | .val v => !(v matches .tuple _)
 | .unk | .agg _ | .gd _=>false
 | _=>true
def RG {α β:Type} (l:List α) (m:List β):Bool :=
 match l with
 | []=>true
 | _::_=>match m with
  | []=>false
  | _::_=>true
structure TR where
 v:TV
 te:List TV
 tS:List TB
 Fg:List Nat
 c:Prop
section
variable (P:Program) (ty:ir) (tt:TypeId→Option TT)
def vz (te:List TV) (o:Oper):List Nat :=
 match o.op with
 | .load _ a=>match iK te a with
  | some (.ptr id _)=>[id]
  | _=>[]
 | _=>[]
def stepT (te:List TV) (tS:List TB) (o:Oper) (nT:Nat):Option TR :=
 match o.op with
 | .alloc e=>match ty e with
  | some ⟨_,_,some z⟩=>some ⟨.ptr nT 0,te,sg tS nT (.cells (z.map wL)),[nT],True⟩
  | _=>none
 | .box _ x=>match iK te x with
  | some d=>if d.known then some ⟨.ptr nT 0,te,sg tS nT (.cells d.cells),[nT],True⟩ else none
  | none=>none
 | .store t a x=>match ty t,iK te a,(iK te x).map (j6 tt t) with
  | some d,some (.ptr id off),some v=>match tS[id]? with
   | some (.cells l)=>if v.known&&v.cells.length==d.size&&v.cells.all abV then (PY l off v.cells).map fun l'=>⟨.unk,te,tS.set id (.cells l'),[id],True⟩ else none
   | _=>none
  | _,_,_=>none
 | .call { callee := .builtin .append,args,argTypes }=>match args.toList,argTypes.toList with
  | [x,y],[t,u]=>if t=u∧ty.h o≠1 then match ty t,(iK te x).map (j6 tt t),(iK te y).map (j6 tt t) with
   | some ⟨.slice e s lK _,_,_⟩,some (.sl k l ap),some (.sl k' m _)=>match ty e with
    | some ⟨_,_,some _⟩=>if h:k'=k then
     if decide (0<s)&&decide (lK≤100000)&&k.size==s then match ap with
      | .no=>none
      | .full=>if RG l m then some ⟨.sl k (l++(h▸m)) (.oE nT),te,sg tS nT (.own e s),[nT],l.length+m.length≤1000000000⟩ else none
      | .oE g=>match tS[g]? with
       | some (.own e' s')=>if e'==e&&s'==s then some ⟨.sl k (l++(h▸m)) (.oE g),wI g te,tS.map (rR g),[g,nT],l.length+m.length≤1000000000⟩ else none
       | _=>none
     else none
     else none
    | _=>none
   | _,_,_=>none
   else none
  | _,_=>none
 | _=>(bX P ty tt te tS o).map fun r=>⟨r.1,te,tS,vz te o,r.2⟩
end
def gW (ρ:Operand→Option DV) (o:Oper) (aH:Nat):List Nat :=
 match o.op with
 | .alloc _ | .box .. => [aH]
 | .store _ a _=>match ρ a with
  | some (.ptr id _)=>[id]
  | _=>[]
 | .load _ a=>match ρ a with
  | some (.ptr id _)=>[id]
  | some (.fC id _ _)=>[id]
  | _=>[]
 | .call { callee := .builtin .append,args,.. }=>match (args[0]?).bind ρ with
  | some (.sl _ (some t) _)=>[t,aH]
  | _=>[aH]
 | _=>[]
def DL:(t:TT)→t.den→List Value
 | .int k,n=>[.int k n]
 | .bool,b=>[.bool b]
 | .str,s=>[.string s]
 | .unit,_=>[]
 | .pair a b,x=>DL a x.1++DL b x.2
 | .sl _,_=>[]
def lN (t:TT) (x:t.den):Value := .agg (DL t x).toArray
def qB (t:TT) (l:List t.den):List (Value×Value):=l.map fun x=>(lN t x,.bool true)
def fF (t:TT):List t.den→List DV→Prop
 | [],ds=>ds=[]
 | x::l,ds=>∃ c m,ds=c++m∧CR t x c∧fF t l m
def aab:TB→Option DB→Prop
 | .map kt l,b=>b=some (.map (qB kt l))
 | .rows t e l z,b=>0<t.size∧(t.agg||t.size==1)=true∧∃ ds,b=some (.op e t.size ds z)∧fF t l ds
 | _,_=>True
structure cK (ι:mm) (te:List TV) (tS:List TB) (env:List DV) (S:ax):Prop where
 env:dw ι S te env
 cells:Kl ι S tS
 own:∀ k e s,tS[k]? = some (.own e s)→∀ t,ι k=some t→∃ n,S[t]? = some (.tail e s n)
 xY:∀ k k',ι k=some k'→∃ b,tS[k]? = some b∧b ≠ .none
 inj:∀ i j k',ι i=some k'→ι j=some k'→i=j
 mp:∀ k b,tS[k]? = some b→∀ t,ι k=some t→aab b S[t]?
def Uz (ι:mm) (w:mm):Prop:=∀ k k',ι k=some k'→w k'=some k
section
variable {P:Program} {ty:ir} {tt:TypeId→Option TT} {ι ι' w:mm} {S S':ax} {te:List TV} {env:List DV} {tS:List TB} {aM:bV} {call:bP} {yf:fI} {o:Oper} {aH nT:Nat} {r:TR}
def Kk (a b:Option DB):Prop:=(∀ e s n,a=some (.tail e s n)→b=some (.tail e s n))∧∀ e s l z,a=some (.op e s l z)→∃ l' z',b=some (.op e s l' z')∧l'.length=l.length
theorem fR {a b:Option DB} (h:b=a):Kk a b:=by subst h; exact⟨fun _ _ _ h=>h,fun _ _ l z h=>⟨l,z,h,rfl⟩⟩
theorem xd {a b:Option DB} (h1:∀ e s n,a≠some (.tail e s n)) (h2:∀ e s l z,a≠some (.op e s l z)):Kk a b:=⟨fun _ _ _ h=>absurd h (h1 _ _ _),fun _ _ _ _ h=>absurd h (h2 _ _ _ _)⟩
def lU (ι:mm) (S:ax) (ι':mm) (S':ax) (bad:Nat→Prop):Prop:=∀ k k',¬ bad k→ι k=some k'→ι' k=some k'∧Kk S[k']? S'[k']?
theorem M3 {n:Nat} {tok:Option Nat} {f:SF} {ap:Ap} {bad:Nat→Prop} (h:lU ι S ι' S' bad) (hb:∀ g,ap = .oE g→¬ bad g) (k:uL ι S n tok f ap):uL ι' S' n tok f ap:=by
 cases ap with
 | no=>trivial
 | full=>exact k
 | oE g =>
  refine k.imp id fun⟨t,e,s,h1,h2,h3⟩ => ?_
  obtain⟨h4,h5⟩:=h g t (hb g rfl) h1
  exact⟨t,e,s,h4,h2,h5.1 _ _ _ h3⟩
mutual
theorem Wn (h:lU ι S ι' S' fun _=>False):∀ (v:TV) (d:DV),RT ι S v d→RT ι' S' v d
 | .unk,_,_=>by simp only[RT]
 | .val _,d,k=>by cases d<;>simp only[RT] at k ⊢; exact k
 | .gq,d,k=>by cases d<;>simp only[RT] at k ⊢; exact k
 | .agg l,d,k=>by cases d<;>simp only[RT] at k ⊢; exact bU h l _ k
 | .gd l,d,k=>by cases d<;>simp only[RT] at k ⊢; exact bU h l _ k
 | .sl t l ap,d,k=>by cases d<;>simp only[RT] at k ⊢; exact⟨k.1,M3 h (fun _ _=>id) k.2⟩
 | .ptr id off,d,k=>by cases d<;>simp only[RT] at k ⊢; exact⟨(h _ _ (fun e=>e) k.1).1,k.2⟩
 | .eL t l i off,d,k=>by cases d<;>simp only[RT] at k ⊢; exact k
 | .mp id,d,k=>by cases d<;>simp only[RT] at k ⊢; exact(h _ _ (fun e=>e) k).1
 | .so g t,d,k=>by
  cases d<;>simp only[RT] at k ⊢
  obtain⟨k1,k2,e,s,l,z,k3,k4⟩:=k
  obtain⟨h1,h2⟩:=h _ _ (fun e=>e) k1
  obtain⟨l',z',h3,h4⟩:=h2.2 e s l z k3
  exact⟨h1,k2,e,s,l',z',h3,by omega⟩
 | .sp g t i off,d,k=>by
  cases d<;>simp only[RT] at k ⊢
  obtain⟨k1,k2,e,s,l,z,k3,k4,k5⟩:=k
  obtain⟨h1,h2⟩:=h _ _ (fun e=>e) k1
  obtain⟨l',z',h3,h4⟩:=h2.2 e s l z k3
  exact⟨h1,k2,e,s,l',z',h3,by omega,by omega⟩
 | .fn f a b,d,k=>by cases d<;>simp only[RT] at k ⊢; exact⟨k.1,bU h a _ k.2.1,bU h b _ k.2.2⟩
theorem bU (h:lU ι S ι' S' fun _=>False):∀ (l:List TV) (m:List DV),dw ι S l m→dw ι' S' l m
 | [],m,k=>by rw[aU k]; exact cF
 | a::l,m,k=>by
  obtain⟨d,m',rfl,h1,h2⟩:=aj k
  exact aP (Wn h a d h1) (bU h l m' h2)
end
mutual
theorem aaX {g:Nat} (h:lU ι S ι' S' fun k=>k=g):∀ (v:TV) (d:DV),RT ι S v d→RT ι' S' (Jo g v) d
 | .unk,_,_=>by simp only[Jo,RT]
 | .val _,d,k=>by cases d<;>simp only[RT,Jo] at k ⊢; exact k
 | .gq,d,k=>by cases d<;>simp only[RT,Jo] at k ⊢; exact k
 | .agg l,d,k=>by cases d<;>simp only[RT,Jo] at k ⊢; exact nA h l _ k
 | .gd l,d,k=>by cases d<;>simp only[RT,Jo] at k ⊢; exact nA h l _ k
 | .sl t l .no,d,k=>by cases d<;>simp only[RT,Jo] at k ⊢; exact⟨k.1,trivial⟩
 | .sl t l .full,d,k=>by cases d<;>simp only[RT,Jo] at k ⊢; exact k
 | .sl t l (.oE j),d,k=>by
  cases d<;>simp only[RT] at k
  simp only[Jo]
  split
  ·simp only[RT]; exact⟨k.1,trivial⟩
  ·rename_i hj
   simp only[RT]; exact⟨k.1,M3 h (fun g' e=>by cases e; exact hj) k.2⟩
 | .ptr id off,d,k=>by
  cases d<;>simp only[RT] at k
  simp only[Jo]
  split
  ·simp only[RT]
  ·rename_i hj
   simp only[RT]; exact⟨(h _ _ hj k.1).1,k.2⟩
 | .eL t l i off,d,k=>by cases d<;>simp only[RT,Jo] at k ⊢; exact k
 | .mp id,d,k=>by
  cases d<;>simp only[RT] at k
  simp only[Jo]
  split
  ·simp only[RT]
  ·rename_i hj
   simp only[RT]; exact(h _ _ hj k).1
 | .so j t,d,k=>by
  cases d<;>simp only[RT] at k
  simp only[Jo]
  split
  ·simp only[RT]
  ·rename_i hj
   simp only[RT]
   obtain⟨k1,k2,e,s,l,z,k3,k4⟩:=k
   obtain⟨h1,h2⟩:=h _ _ hj k1
   obtain⟨l',z',h3,h4⟩:=h2.2 e s l z k3
   exact⟨h1,k2,e,s,l',z',h3,by omega⟩
 | .sp j t i off,d,k=>by
  cases d<;>simp only[RT] at k
  simp only[Jo]
  split
  ·simp only[RT]
  ·rename_i hj
   simp only[RT]
   obtain⟨k1,k2,e,s,l,z,k3,k4,k5⟩:=k
   obtain⟨h1,h2⟩:=h _ _ hj k1
   obtain⟨l',z',h3,h4⟩:=h2.2 e s l z k3
   exact⟨h1,k2,e,s,l',z',h3,by omega,by omega⟩
 | .fn f a b,d,k=>by cases d<;>simp only[RT,Jo] at k ⊢; exact⟨k.1,nA h a _ k.2.1,nA h b _ k.2.2⟩
theorem nA {g:Nat} (h:lU ι S ι' S' fun k=>k=g):∀ (l:List TV) (m:List DV),dw ι S l m→dw ι' S' (wI g l) m
 | [],m,k=>by rw[aU k]; simp only[wI]; exact cF
 | a::l,m,k=>by
  obtain⟨d,m',rfl,h1,h2⟩:=aj k
  simp only[wI]
  exact aP (aaX h a d h1) (nA h l m' h2)
end
def ye (tS:List TB) (nT:Nat):Prop:=tS[nT]? = some .none∨nT=tS.length
def yg (S:ax) (aH:Nat):Prop:=S[aH]? = some .none∨aH=S.length
theorem cL {b:TB} (h:ye tS nT) (j:Nat):(sg tS nT b)[j]? = if j=nT then some b else tS[j]? := by
 unfold sg
 rcases h with h | h
 ·have hlt:=(aJ.1 h).1
  rw[if_pos hlt,aQ]
  by_cases e:nT=j
  ·subst e; rw[if_pos rfl,if_pos hlt,if_pos rfl]
  ·rw[if_neg e,if_neg (Ne.symm e)]
 ·subst h
  rw[if_neg (Nat.lt_irrefl _),qP]
  by_cases e:j=tS.length
  ·subst e; rw[if_neg (Nat.lt_irrefl _),if_pos rfl]; simp
  ·rw[if_neg e]
   split
   ·rfl
   ·rw[fN (by simp; omega),fN (by omega)]
theorem bz {b:DB} (h:yg S aH) (j:Nat):(eV S aH b)[j]? = if j=aH then some b else S[j]? := by
 unfold eV
 rcases h with h | h
 ·have hlt:=(aJ.1 h).1
  rw[if_pos hlt,aQ]
  by_cases e:aH=j
  ·subst e; rw[if_pos rfl,if_pos hlt,if_pos rfl]
  ·rw[if_neg e,if_neg (Ne.symm e)]
 ·subst h
  rw[if_neg (Nat.lt_irrefl _),qP]
  by_cases e:j=S.length
  ·subst e; rw[if_neg (Nat.lt_irrefl _),if_pos rfl]; simp
  ·rw[if_neg e]
   split
   ·rfl
   ·rw[fN (by simp; omega),fN (by omega)]
def upd (ι:mm) (k k':Nat):mm:=fun j=>if j=k then some k' else ι j
theorem cK.live (h:cK ι te tS env S) {k k':Nat} (hk:ι k=some k'):∃ b,S[k']? = some b∧b ≠ .none:=by
 obtain⟨b,h1,h2⟩:=h.xY k k' hk
 cases b with
 | none=>exact(h2 rfl).elim
 | cells l =>
  obtain⟨k'',ds,h3,h4,-⟩:=h.cells k l h1
  rw[hk] at h3
  cases h3
  exact⟨_,h4,fun e=>by cases e⟩
 | own e s =>
  obtain⟨n,h3⟩:=h.own k e s h1 k' hk
  exact⟨_,h3,fun e=>by cases e⟩
 | map kt l=>exact⟨_,h.mp k _ h1 k' hk,fun e=>by cases e⟩
 | rows t e l z =>
  obtain⟨-,-,ds,h3,-⟩:=h.mp k _ h1 k' hk
  exact⟨_,h3,fun e=>by cases e⟩
theorem cK.dI (h:cK ι te tS env S) (hn:yg S aH) {k k':Nat} (hk:ι k=some k'):k'≠aH:=by
 rintro rfl
 obtain⟨b,h1,h2⟩:=h.live hk
 rcases hn with hn | hn
 ·rw[hn] at h1; cases h1; exact h2 rfl
 ·have:=(aJ.1 h1).1; omega
theorem cK.new (h:cK ι te tS env S) (hn:ye tS nT):ι nT=none:=by
 cases hk:ι nT with
 | none=>rfl
 | some k' =>
  obtain⟨b,h1,h2⟩:=h.xY _ _ hk
  rcases hn with hn | hn
  ·rw[hn] at h1; cases h1; exact(h2 rfl).elim
  ·have:=(aJ.1 h1).1; omega
theorem uf (h:cK ι te tS env S) (hT:ye tS nT) (hn:yg S aH) (b:DB):lU ι S (upd ι nT aH) (eV S aH b) fun _=>False:=by
 intro k k' _ hk
 have h1:k≠nT:=by rintro rfl; rw[h.new hT] at hk; cases hk
 exact⟨by simp only[upd,h1,if_false]; exact hk,fR (by rw[bz hn,if_neg (h.dI hn hk)])⟩
theorem qH (h:cK ι te tS env S) (hn:yg S aH) (hT:ye tS nT) (hw:Uz ι w):Uz (upd ι nT aH) (upd w aH nT):=by
 intro k k' hk
 unfold upd at hk ⊢
 split at hk
 ·rename_i e
  subst e
  cases hk
  simp
 ·rw[if_neg (h.dI hn hk)]
  exact hw k k' hk
theorem u7 (h:cK ι te tS env S) (hT:ye tS nT) (hn:yg S aH) {ts:List TV} {ds:List DV} (hc:dw ι S ts ds):cK (upd ι nT aH) te (sg tS nT (.cells ts)) env (eV S aH (.cells ds)):=by
 have K:=uf h hT hn (.cells ds)
 refine⟨bU K _ _ h.env,fun k l hk => ?_,fun k e s hk t ht => ?_,fun k k' hk => ?_,fun i j k' hi hj => ?_,fun k b hk t ht => ?_⟩
 ·rw[cL hT] at hk
  split at hk
  ·rename_i e
   subst e
   cases hk
   exact⟨aH,ds,by simp[upd],by rw[bz hn,if_pos rfl],bU K _ _ hc⟩
  ·rename_i e
   obtain⟨k',gR,h1,h2,h3⟩:=h.cells k l hk
   exact⟨k',gR,by simp only[upd,e,if_false]; exact h1,by rw[bz hn,if_neg (h.dI hn h1)]; exact h2,bU K _ _ h3⟩
 ·rw[cL hT] at hk
  split at hk
  ·cases hk
  ·rename_i e'
   simp only[upd,e',if_false] at ht
   obtain⟨n,h1⟩:=h.own k e s hk t ht
   exact⟨n,by rw[bz hn,if_neg (h.dI hn ht)]; exact h1⟩
 ·rw[cL hT]
  split
  ·exact⟨_,rfl,fun e=>by cases e⟩
  ·rename_i e
   simp only[upd,e,if_false] at hk
   exact h.xY k k' hk
 ·unfold upd at hi hj
  split at hi<;>split at hj
  ·omega
  ·cases hi; exact(h.dI hn hj rfl).elim
  ·cases hj; exact(h.dI hn hi rfl).elim
  ·exact h.inj i j k' hi hj
 ·rw[cL hT] at hk
  split at hk
  ·cases hk; trivial
  ·rename_i e'
   simp only[upd,e',if_false] at ht
   rw[bz hn,if_neg (h.dI hn ht)]
   exact h.mp k b hk t ht
def Lv (S:ax) (i:Nat):Prop:=∃ b,S[i]? = some b∧b ≠ .none
structure Fr (B:List Nat) (ι:mm) (S:ax) (ι':mm) (S':ax):Prop where
 rest:∀ k',Lv S k'→(∀ k,ι k≠some k')→S'[k']? = S[k']?
 ours:∀ k k',ι' k=some k'→(∃ j,ι j=some k')∨¬ Lv S k'
 base:∀ k,k∈B→ι' k=ι k
def pg (B:List Nat) (tS:List TB):Prop:=∀ k,k∈B→∃ l,tS[k]? = some (.cells l)
theorem Fr.refl (B:List Nat) (ι:mm) (S:ax):Fr B ι S ι S:=⟨fun _ _ _=>rfl,fun k _ h => .inl ⟨k,h⟩,fun _ _=>rfl⟩
theorem Fr.trans {B:List Nat} {ι'':mm} {vk:ax} (h:Fr B ι S ι' S') (k:Fr B ι' S' ι'' vk):Fr B ι S ι'' vk where
 rest:=fun k' hl hn=>by
  have h1:=h.rest k' hl hn
  have iy:Lv S' k':=by obtain⟨b,h2,h3⟩:=hl; exact⟨b,h1.trans h2,h3⟩
  refine(k.rest k' iy fun j hj => ?_).trans h1
  rcases h.ours j k' hj with ⟨i,h2⟩ | h2
  ·exact hn i h2
  ·exact h2 hl
 ours:=fun j k' hj=>by
  rcases k.ours j k' hj with ⟨i,h1⟩ | h1
  ·exact h.ours i k' h1
  ·by_cases hl:Lv S k'
   ·by_cases hn:∃ j,ι j=some k'
    ·exact .inl hn
    ·refine(h1 ?_).elim
     obtain⟨b,h2,h3⟩:=hl
     exact⟨b,(h.rest k' ⟨b,h2,h3⟩ fun i hi=>hn ⟨i,hi⟩).trans h2,h3⟩
   ·exact .inr hl
 base:=fun j hj=>(k.base j hj).trans (h.base j hj)
theorem xQ (hn:yg S aH):¬ Lv S aH:=by
 rintro⟨b,h1,h2⟩
 rcases hn with hn | hn
 ·rw[hn] at h1; cases h1; exact h2 rfl
 ·have:=(aJ.1 h1).1; omega
theorem sK {B:List Nat} {g:Nat} {b:DB} (hn:yg S aH) (hg:g ∉ B):Fr B ι S (upd ι g aH) (eV S aH b) where
 rest:=fun k' hl _=>by
  rw[bz hn,if_neg]
  rintro rfl
  exact xQ hn hl
 ours:=fun k k' hk=>by
  unfold upd at hk
  split at hk
  ·cases hk; exact .inr (xQ hn)
  ·exact .inl ⟨k,hk⟩
 base:=fun k hk=>by unfold upd; rw[if_neg (fun e:k=g=>hg (e▸hk))]
theorem yu {B:List Nat} {k0 id:Nat} {b:DB} (hk:ι k0=some id):Fr B ι S ι (S.set id b) where
 rest:=fun k' _ hn=>by
  rw[aQ,if_neg]
  rintro rfl
  exact hn k0 hk
 ours:=fun k _ h => .inl ⟨k,h⟩
 base:=fun _ _=>rfl
theorem nG {B:List Nat} (hB:pg B tS) (hT:ye tS nT):nT ∉ B:=by
 intro hlt
 obtain⟨l,h1⟩:=hB _ hlt
 rcases hT with hT | hT
 ·rw[hT] at h1; cases h1
 ·have:=(aJ.1 h1).1; omega
theorem lF {B:List Nat} {b:TB} (hB:pg B tS) (hT:ye tS nT):pg B (sg tS nT b):=by
 intro k hk
 have:=nG hB hT
 rw[cL hT,if_neg (fun e:k=nT=>this (e▸hk))]
 exact hB k hk
theorem Xs {B:List Nat} {g e s:Nat} (hB:pg B tS) (h:tS[g]? = some (.own e s)):g ∉ B:=by
 intro hlt
 obtain⟨l,h1⟩:=hB _ hlt
 rw[h] at h1; cases h1
def Nn (i:Nat) (S S':ax):Prop:=S.length≤S'.length∧∀ j,j≠i→S[j]? = some .none→S'[j]? = some .none
theorem gu (i:Nat) (S:ax):Nn i S S:=⟨ak _,fun _ _ h=>h⟩
theorem oS {b:DB} (hn:yg S aH):Nn aH S (eV S aH b):=by
 refine⟨?_,fun j hj h=>by rw[bz hn,if_neg hj]; exact h⟩
 unfold eV
 split<;>simp
theorem ym {i id:Nat} {b b':DB} (h:S[id]? = some b) (hb:b ≠ .none):Nn i S (S.set id b'):=by
 refine⟨by simp,fun j _ hj => ?_⟩
 rw[aQ,if_neg]
 ·exact hj
 ·rintro rfl
  rw[h] at hj
  cases hj
  exact hb rfl
end
end Go.Tv
end
