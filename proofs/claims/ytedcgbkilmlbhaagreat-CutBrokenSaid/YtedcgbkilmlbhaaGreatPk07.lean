import Derived.Test.YtedcgbkilmlbhaaGreatPk06
section
namespace Go.Tv
open Go Go.Di Go.Proofs
def aM (b:Bool) (A B:Prop):Prop :=
 match b with
 | true=>A
 | false=>B
def xT:List Prop→Prop→Prop
 | [],R=>R
 | p::l,R=>p∧xT l R
def cF:List Prop→Prop
 | []=>True
 | p::l=>p∧cF l
def impl:List Prop→Prop→Prop
 | [],R=>R
 | p::l,R=>p→impl l R
inductive q9:Type 1
 | ex (α:Type) (k:α→q9)
 | res (v:TV) (cs:List TV) (facts:List Prop)
def q9.all:q9→(TV→List TV→List Prop→Prop)→Prop
 | .ex _ k,K=>∀ x,(k x).all K
 | .res v cs fs,K=>K v cs fs
def q9.some:q9→(TV→List TV→List Prop→Prop)→Prop
 | .ex _ k,K=>∃ x,(k x).some K
 | .res v cs fs,K=>K v cs fs
def q9.holds (s:q9) (v:TV) (cs:List TV):Prop:=s.some fun v' jw fs=>v=v'∧cs=jw∧cF fs
def q9.rM (s:q9) (v:TV):Prop:=s.some fun v' _ fs=>v=v'∧cF fs
def q9.uU (s:q9) (cs:List TV):Prop:=s.some fun _ jw fs=>cs=jw∧cF fs
abbrev Sp:=Option (List Prop×q9)
structure Bd where
 sl:List (Nat×TV)
 pl:List (Nat×List TV):=[]
 own:List (Nat×Nat):=[]
 dX:List Prop:=[]
 mp:List (Nat×(Σ kt:TT,List kt.den)):=[]
 m:Nat:=0
inductive LA:Type 1
 | ex (α:Type) (k:α→LA)
 | st (b:Bd)
 | un (n:Nat)
 | dep (f:List TV→List TB→LA)
 | pe (n:Nat) (a:LA)
def LA.TJ:LA→Nat
 | .pe n _=>n
 | _=>0
def LA.inner:LA→LA
 | .pe _ a=>a
 | a=>a
def LA.at (la:LA) (te:List TV) (tS:List TB):LA :=
 match la with
 | .dep f=>f te tS
 | la=>la
def aci (te:List TV) (i:Nat) (k:List Int→LA):LA :=
 match te.getD i .unk with
 | .sl (.int .i64) l _=>k l
 | _ => .un 0
def LA.all:LA→(Bd→Prop)→Prop
 | .ex _ k,K=>∀ x,(k x).all K
 | .st b,K=>K b
 | _,_=>True
def LA.some:LA→(Bd→Prop)→Prop
 | .ex _ k,K=>∃ x,(k x).some K
 | .st b,K=>K b
 | _,_=>False
structure gN where
 I:FuncId→List TV→Sp
 C:FuncId→List TV→List TV→Sp
 N:FuncId→List TV→Sp
 X:FuncId→Option (Func×List (Nat×LA)):=fun _=>none
structure oI (T:gN) (aD:bn) (call:aW):Prop where
 I:∀ g a p s,T.I g a=some (p,s)→cF p→oM aD g a fun v=>s.rM v
 C:∀ g a c p s,T.C g a c=some (p,s)→cF p→vY call g a c fun v cs=>s.holds v cs
 N:∀ g a p s,T.N g a=some (p,s)→cF p→x9 aD call g a fun cs=>s.uU cs
mutual
def gm (v:TV) (K:TV→Prop):Prop :=
 match v with
 | .unk=>K .unk
 | .val (.int k n)=>K (.val (.int k n))
 | .val (.bool b)=>K (.val (.bool b))
 | .val v=>K (.val v)
 | .ei=>K .ei
 | .agg l=>cS l fun l=>K (.agg l)
 | .ee l=>cS l fun l=>K (.ee l)
 | .sl t l ap=>K (.sl t l ap)
 | .ptr id off=>K (.ptr id off)
 | .cU t l i off=>K (.cU t l i off)
 | .mp id=>K (.mp id)
 | .so g t=>K (.so g t)
 | .sp g t i off=>K (.sp g t i off)
 | .fn f a b=>cS a fun a=>cS b fun b=>K (.fn f a b)
def cS (l:List TV) (K:List TV→Prop):Prop :=
 match l with
 | []=>K []
 | a::l=>gm a fun a=>cS l fun l=>K (a::l)
end
def cH (l:List TB) (K:List TB→Prop):Prop :=
 match l with
 | []=>K []
 | .cells c::l=>cS c fun c=>cH l fun l=>K (.cells c::l)
 | .none::l=>cH l fun l=>K (.none::l)
 | .own e s::l=>cH l fun l=>K (.own e s::l)
 | .map kt c::l=>cH l fun l=>K (.map kt c::l)
 | .rows t e c z::l=>cH l fun l=>K (.rows t e c z::l)
def Ak:List TV→Nat→TV→(List TV→Prop)→Prop
 | [],_,_,K=>K []
 | _::l,0,v,K=>K (v::l)
 | a::l,n+1,v,K=>Ak l n v fun l=>K (a::l)
def ir (te:List TV) (dst:Option Tmp) (v:TV) (K:List TV→Prop):Prop :=
 match dst with
 | some d=>Ak te d v K
 | none=>K te
mutual
def U3:TV→TV→Option (List Prop)
 | .unk,.unk=>some []
 | .val (.int k a),.val (.int k' b)=>if k=k' then some [a=b] else none
 | .val (.bool a),.val (.bool b)=>some [a=b]
 | .val a,.val b=>some [a=b]
 | .ei,.ei=>some []
 | .agg l,.agg m=>LJ l m
 | .ee l,.ee m=>LJ l m
 | .sl t l .no,.sl t' l' .no=>if h:t=t' then some [h▸l=l'] else none
 | .sl t l .full,.sl t' l' .full=>if h:t=t' then some [h▸l=l'] else none
 | .sl t l (.qA g),.sl t' l' (.qA g')=>if h:t=t' then if g=g' then some [h▸l=l'] else none else none
 | .ptr i o,.ptr i' o'=>if i=i'∧o=o' then some [] else none
 | .mp i,.mp i'=>if i=i' then some [] else none
 | .so i t,.so i' t'=>if i=i'∧t=t' then some [] else none
 | .cU t l i o,.cU t' l' i' o'=>if h:t=t' then some [h▸l=l',i=i',o=o'] else none
 | .fn f a b,.fn f' a' b'=>if f=f' then match LJ a a',LJ b b' with
  | some x,some y=>some (x++y)
  | _,_=>none else none
 | _,_=>none
def LJ:List TV→List TV→Option (List Prop)
 | [],[]=>some []
 | a::l,b::m=>match U3 a b,LJ l m with
  | some x,some y=>some (x++y)
  | _,_=>none
 | _,_=>none
end
mutual
def leT:TV→TV→Option (List Prop)
 | _,.unk=>some []
 | .sl t l _,.sl t' l' .no=>if h:t=t' then some [h▸l=l'] else none
 | .sl t l .full,.sl t' l' (.qA _)=>match l with
  | []=>if t=t' then some [[]=l'] else none
  | _::_=>none
 | .ei,.sl _ l _=>some [[]=l]
 | .agg l,.agg m=>BZ l m
 | v,u=>U3 v u
def BZ:List TV→List TV→Option (List Prop)
 | [],[]=>some []
 | a::l,b::m=>match leT a b,BZ l m with
  | some x,some y=>some (x++y)
  | _,_=>none
 | _,_=>none
end
def ot:List TB→List TB→Option (List Prop)
 | _,[]=>some []
 | _::l,.none::m=>ot l m
 | .cells a::l,.cells b::m=>match BZ a b,ot l m with
  | some x,some y=>some (x++y)
  | _,_=>none
 | .own e s::l,.own e' s'::m=>if e=e'∧s=s' then ot l m else none
 | .map kt a::l,.map SN b::m=>if h:kt=SN then match ot l m with
  | some y=>some ((h▸a=b)::y)
  | none=>none else none
 | .rows t e a z::l,.rows t' e' b z'::m=>if h:t=t' then if e=e'∧z=z' then match ot l m with
  | some y=>some ((h▸a=b)::y)
  | none=>none else none else none
 | [],.own _ _::m=>ot [] m
 | _,_=>none
def ask (o:Option (List Prop)) (K:Prop):Prop :=
 match o with
 | some l=>xT l K
 | none=>False
section
variable (P:Program) (ty:eV) (tt:TypeId→Option TT) (T:gN)
def dg (n:Int):Prop := -9223372036854775808≤n∧n≤9223372036854775807
def yt (te:List TV) (o:Oper):Option (TV×Prop) :=
 match o.op with
 | .binOp .add _ x y _=>match fD te x,fD te y with
  | some (.val (.int .i64 a)),some (.val (.int .i64 b))=>some (.val (.int .i64 (a+b)),dg (a+b))
  | _,_=>none
 | .binOp .sub _ x y _=>match fD te x,fD te y with
  | some (.val (.int .i64 a)),some (.val (.int .i64 b))=>some (.val (.int .i64 (a-b)),dg (a-b))
  | _,_=>none
 | .binOp .mul _ x y _=>match fD te x,fD te y with
  | some (.val (.int .i64 a)),some (.val (.int .i64 b))=>some (.val (.int .i64 (a*b)),dg (a*b))
  | _,_=>none
 | .unOp .neg _ x=>match fD te x with
  | some (.val (.int .i64 a))=>some (.val (.int .i64 (-a)),dg (-a))
  | _=>none
 | _=>none
abbrev VU (xs ys:Array Value):List Field→Option Bool:=D8 P (eqV P 1) xs ys
def Ma (te:List TV) (o:Oper):Option Bool :=
 match o.op with
 | .binOp .neq t x y _=>match (fD te x).bind fS,(fD te y).bind fS with
  | some (.agg xs),some (.agg ys)=>match P.underlying t,P.stoodInHeld t,P.eqGuardType P.depth t with
   | some (.struct fs),false,false=>(VU P xs ys fs.toList).map fun r => !r
   | _,_,_=>none
  | _,_=>none
 | .binOp .eql t x y _=>match (fD te x).bind fS,(fD te y).bind fS with
  | some (.agg xs),some (.agg ys)=>match P.underlying t,P.stoodInHeld t,P.eqGuardType P.depth t with
   | some (.struct fs),false,false=>VU P xs ys fs.toList
   | _,_,_=>none
  | _,_=>none
 | _=>none
def uX (o:Oper):Bool :=
 match o.op with
 | .slice .. | .indexAddr .. => true
 | .call { callee := .builtin .append,.. }=>true
 | _=>false
def V0 (te:List TV) (o:Oper):Option (Tmp×Int×Nat) :=
 match o.op with
 | .indexAddr t _ (.tmp i)=>match ty t,te[i]? with
  | some ⟨.array k _ _,_,_⟩,some (.val (.int .i64 n))=>some (i,n,k)
  | _,_=>none
 | .index t _ (.tmp i)=>match ty t,te[i]? with
  | some ⟨.array k _ _,_,_⟩,some (.val (.int .i64 n))=>some (i,n,k)
  | _,_=>none
 | _=>none
def Gc (n:Int) (K:Nat→Prop):Nat→Nat→Prop
 | 0,_=>False
 | c+1,j=>aM (decide (n=(j:Int))) (K j) (Gc n K c (j+1))
def Vm (te:List TV) (o:Oper):Option (Bool×Prop) :=
 match o.op with
 | .binOp .eql t x y _=>match ty t,fD te x,fD te y with
  | some ⟨.slice _ _ _ _,_,_⟩,some (.sl _ l _),some .ei=>some (false,l≠[])
  | some ⟨.slice _ _ _ _,_,_⟩,some .ei,some .ei=>some (true,True)
  | _,_,_=>none
 | _=>none
def xA (tS:List TB) (k:Nat):Bool :=
 match tS[k]? with
 | some (.cells _)=>true
 | _=>false
mutual
def j7 (tS:List TB):TV→TV
 | .sl t l (.qA _) => .sl t l .no
 | .ptr id off=>match xA tS id with
  | true => .ptr id off
  | false => .unk
 | .mp id => .unk
 | .so _ _ => .unk
 | .sp _ _ _ _ => .unk
 | .agg l => .agg (mH tS l)
 | .ee l => .ee (mH tS l)
 | .fn f a b => .fn f (mH tS a) (mH tS b)
 | v=>v
def mH (tS:List TB):List TV→List TV
 | []=>[]
 | a::l=>j7 tS a::mH tS l
end
def en:Nat→List TB→List Nat
 | _,[]=>[]
 | i,.cells _::l=>i::en (i+1) l
 | i,_::l=>en (i+1) l
def aaq (o:Oper):Bool :=
 match o.op with
 | .binOp .neq .. | .binOp .eql .. => true
 | _=>false
def MI (te:List TV) (o:Oper):Option (FuncId×List TV) :=
 match o.op with
 | .call { callee := .value f,args,argTypes }=>match fD te f,lH te args.toList with
  | some (.fn g fs cs),some xs=>if (fs++xs++cs).all eC then some (g,aX (gp tt fs argTypes) (fs++xs++cs)) else none
  | _,_=>none
 | _=>none
def Gl (te:List TV) (tS:List TB) (o:Oper):Option (FuncId×Nat×List TV×List TV) :=
 match o.op with
 | .call { callee := .value f,args,argTypes }=>match fD te f,lH te args.toList with
  | some (.fn g fs cs),some xs=>match Mi (fs++xs++cs) with
   | some kp=>match tA kp (gp tt fs argTypes) (fs++xs++cs),tS[kp]? with
    | some targs,some (.cells ts)=>if (fs++xs++cs).any isRef&&(gf ts).isEmpty then some (g,kp,targs,ts) else none
    | _,_=>none
   | none=>none
  | _,_=>none
 | _=>none
def Gn (te:List TV) (tS:List TB) (o:Oper):Option (FuncId×Nat×List TV×List TV) :=
 match o.op with
 | .call { callee := .value f,args,argTypes }=>match fD te f,lH te args.toList with
  | some (.fn g fs cs),some xs=>match fs++xs++cs with
   | .ptr kp off::rest=>match tS[kp]? with
    | some (.cells ts)=>if rest.all eC&&ts.all tq then some (g,kp,.ptr 0 off::aX (gp tt fs argTypes).tail rest,ts) else none
    | _=>none
   | _=>none
  | _,_=>none
 | _=>none
def W0 (md:Nat) (te:List TV) (tS:List TB) (o:Oper):Option (FuncId×Nat×List TV×List TV) :=
 match md with
 | 0=>Gl tt te tS o
 | 2=>Gn tt te tS o
 | _=>none
def x7 (md kp:Nat):cu :=
 match md with
 | 2=>⟨some [kp],true⟩
 | _=>⟨none,true⟩
def D5 (md:Nat) (v:TV) (cs:List TV) (K:Prop):Prop :=
 match md with
 | 2=>match H8 v&&cs.all tq with
  | true=>K
  | false=>False
 | _=>K
def Zn (te:List TV) (o:Oper):Option (FuncId×List TV) :=
 match o.op with
 | .call { callee := .value f,args,argTypes:=_ }=>match fD te f,lH te args.toList with
  | some (.fn g fs cs),some xs=>if (fs++xs++cs).any isRef||ty.h o==1 then some (g,fs++xs++cs) else none
  | _,_=>none
 | _=>none
def Vq (md:Nat) (te:List TV) (o:Oper):Option (List TV×Func×List (Nat×LA)) :=
 match md with
 | 0=>match Zn ty te o with
  | some (g,A)=>match T.X g with
   | some (fn,j)=>some (A,fn,j)
   | none=>none
  | none=>none
 | _=>none
abbrev Y9:=Func→List (Nat×LA)→List TV→List TB→(TV→List TB→Prop)→Prop
inductive Gd
 | no (b:Bool)
 | ask (d:Tmp) (b want:Bool)
 | unk
def Y2 (ops:Array Oper) (te:List TV) (o:Oper):Gd :=
 match o.guard with
 | none => .no true
 | some (j,want)=>match (ops[j]?).bind (·.dst) with
  | some d=>match te[d]? with
   | some (.val (.bool b)) => .ask d b want
   | some .unk => .unk
   | some (.val _) => .no false
   | _ => .unk
  | none => .no false
abbrev KO:=List TV→List TB→List cu→Prop
def eN:cu:=⟨some [],false⟩
def Jq (md n0 k:Nat) (tS:List TB):Nat :=
 match md with
 | 2=>n0+k
 | _=>tS.length
variable (inl:Y9)
def MJ (md:Nat) (o:Oper) (te:List TV) (tS:List TB) (fs:List cu) (K:KO):Prop :=
 match Vq ty T md te o with
 | some (A,fn,j)=>inl fn j A tS fun v bV=>gm v fun v=>cS (mH tS te) fun te=>ir te o.dst v fun te=>K te bV fs
 | none=>match ty.h o==1 with
 | true=>False
 | false=>match MI tt te o with
 | some (g,targs)=>match md==0,T.N g targs with
  | true,some (p,s)=>xT p (s.all fun _ cs facts=>impl facts (ir te o.dst (.ptr tS.length 0) fun te=>K te (tS++[.cells cs]) fs))
  | _,_=>match T.I g targs with
   | some (p,s)=>xT p (s.all fun v _ facts=>impl facts (gm v fun v=>ir te o.dst v fun te=>K te tS (fs++[eN])))
   | none=>False
 | none=>match W0 tt md te tS o with
  | some (g,kp,targs,ts)=>match T.C g targs ts with
   | some (p,s)=>xT p (s.all fun v cs facts=>impl facts (D5 md v cs (gm v fun v=>ir te o.dst v fun te=>cS cs fun cs=>cH (tS.set kp (.cells cs)) fun tS=>K te tS (fs++[x7 md kp]))))
   | none=>False
  | none=>False
def mapM (md:Nat) (te:List TV) (tS:List TB) (o:Oper):Option (TV×List TB×Prop) :=
 match md with
 | 0=>Vn P tt te tS o tS.length
 | _=>none
def TL (md:Nat) (te:List TV) (tS:List TB) (o:Oper) (nT:Nat):Option (TV×List TV×List TB×cu×Prop) :=
 match DN ty tt te tS o with
 | some (v,g,c)=>some (v,te,tS,⟨some [g],false⟩,c)
 | none=>if md=1 then none else match Ml ty tt te tS o with
  | some (g,bV)=>some (.unk,te,bV,⟨some [g],true⟩,True)
  | none=>if md=0 then (Mk ty tt te tS o nT).map fun r=>(r.1,r.2.1,r.2.2.1,⟨none,true⟩,r.2.2.2) else none
def Qo (md n0 k:Nat) (o:Oper) (te:List TV) (tS:List TB) (fs:List cu) (K:KO):Prop :=
 match BX tS (Jq md n0 k tS) with
 | false=>False
 | true=>match Xh o with
  | true=>MJ ty tt T inl md o te tS fs K
  | false=>match TL ty tt md te tS o (Jq md n0 k tS) with
   | some (v,bT,bV,f,c)=>c∧gm v fun v=>cS bT fun te=>ir te o.dst v fun te=>cH bV fun tS=>K te tS (fs++[f])
   | none=>match mapM P tt md te tS o with
   | some (v,bV,c)=>c∧gm v fun v=>ir te o.dst v fun te=>cH bV fun tS=>K te tS (fs++[⟨none,true⟩])
   | none=>match yt te o with
   | some (v,c)=>c∧ir te o.dst v fun te=>K te tS (fs++[eN])
   | none=>match aaq o,Ma P te o,Vm ty te o with
    | true,some b,_=>ir te o.dst (.val (.bool b)) fun te=>K te tS (fs++[eN])
    | true,none,some (b,c)=>c∧ir te o.dst (.val (.bool b)) fun te=>K te tS (fs++[eN])
    | _,_,_=>match md with
     | 1=>match bg P ty tt te tS o with
      | some q=>match uX o with
       | true=>q.2∧gm q.1 fun v=>ir te o.dst v fun te=>K te tS (fs++[eN])
       | false=>gm q.1 fun v=>ir te o.dst v fun te=>K te tS (fs++[eN])
      | none=>False
     | _=>match stepT P ty tt te tS o (Jq md n0 k tS) with
      | some q=>match uX o with
       | true=>q.c∧gm q.v fun v=>cS q.te fun te=>ir te o.dst v fun te=>cH q.tS fun tS=>K te tS (fs++[⟨some q.B4,kL o⟩])
       | false=>gm q.v fun v=>ir q.te o.dst v fun te=>cH q.tS fun tS=>K te tS (fs++[⟨some q.B4,kL o⟩])
      | none=>False
def Jp (md n0 k:Nat) (o:Oper) (te:List TV) (tS:List TB) (fs:List cu) (K:KO):Prop :=
 match V0 ty te o with
 | some (t,n,c)=>Gc n (fun j=>Ak te t (.val (.int .i64 (j:Int))) fun te=>Qo P ty tt T inl md n0 k o te tS fs K) c 0
 | none=>Qo P ty tt T inl md n0 k o te tS fs K
def Yk (md n0 k:Nat) (o:Oper) (te:List TV) (tS:List TB) (fs:List cu) (K:KO):Prop :=
 match md,ty.h o with
 | 0,2=>match FX ty te tS o with
  | some (te,tS)=>cS te fun te=>cH tS fun tS=>Jp P ty tt T inl md n0 k o te tS fs K
  | none=>False
 | _,_=>Jp P ty tt T inl md n0 k o te tS fs K
def HS (o:Oper) (te:List TV) (tS:List TB) (fs:List cu) (K:KO):Prop:=ir te o.dst Jm fun te=>K te tS (fs++[eN])
def lI (md n0:Nat) (ops:Array Oper):List Oper→Nat→List TV→List TB→List cu→KO→Prop
 | [],_,te,tS,fs,K=>K te tS fs
 | o::r,k,te,tS,fs,K=>match Y2 ops te o with
  | .no true=>Yk P ty tt T inl md n0 k o te tS fs fun te tS fs=>lI md n0 ops r (k+1) te tS fs K
  | .no false=>HS o te tS fs fun te tS fs=>lI md n0 ops r (k+1) te tS fs K
  | .ask d b want=>match want with
   | true=>aM b (Ak te d (.val (.bool true)) fun te=>Yk P ty tt T inl md n0 k o te tS fs fun te tS fs=>lI md n0 ops r (k+1) te tS fs K) (Ak te d (.val (.bool false)) fun te=>HS o te tS fs fun te tS fs=>lI md n0 ops r (k+1) te tS fs K)
   | false=>aM b (Ak te d (.val (.bool true)) fun te=>HS o te tS fs fun te tS fs=>lI md n0 ops r (k+1) te tS fs K) (Ak te d (.val (.bool false)) fun te=>Yk P ty tt T inl md n0 k o te tS fs fun te tS fs=>lI md n0 ops r (k+1) te tS fs K)
  | .unk=>False
def acd (d:Option Tmp):Nat :=
 match d with
 | some d=>2 ^ d
 | none=>0
def W6 (o:Oper):Nat:=o.op.operands.foldl (fun a x=>match x with | .tmp t=>a ||| 2 ^ t | _=>a) 0
def defs:Code→Nat
 | .region _ ops _=>ops.foldl (fun a o=>a ||| acd o.dst) 0
 | .seq a b | .cond _ a b=>defs a ||| defs b
 | .block _ c | .loop c | .scope c=>defs c
 | _=>0
def kM:Code→Nat
 | .region _ ops _=>ops.foldl (fun a o=>a ||| W6 o) 0
 | .seq a b=>kM a ||| kM b
 | .cond x a b=>(match x with | .tmp t=>2 ^ t | _=>0) ||| kM a ||| kM b
 | .block _ c | .loop c | .scope c=>kM c
 | _=>0
def cnt:Code→Nat
 | .seq a b=>1+cnt a+cnt b
 | .cond _ a b=>cnt a+cnt b
 | .block _ c | .scope c=>cnt c
 | .loop c=>1+cnt c
 | _=>0
def j6 (sl:List (Nat×TV)) (keep:Nat):Nat→List TV→List TV
 | _,[]=>[]
 | i,v::l=>(match sl.find? fun p=>p.1==i with
  | some p=>p.2
  | none=>match keep.testBit i with
   | true=>v
   | false => .unk)::j6 sl keep (i+1) l
def qO (sl:List (Nat×TV)):Nat→List TV→Option (List Prop)
 | _,[]=>some []
 | i,v::l=>match sl.find? fun p=>p.1==i with
  | some p=>match leT v p.2,qO sl (i+1) l with
   | some x,some y=>some (x++y)
   | _,_=>none
  | none=>qO sl (i+1) l
abbrev MpL:=List (Nat×(Σ kt:TT,List kt.den))
def qP (pl:List (Nat×List TV)) (mp:MpL):Nat→List TB→List TB
 | _,[]=>[]
 | i,.cells c::l=>(match pl.find? fun p=>p.1==i with
  | some p => .cells p.2
  | none => .cells c)::qP pl mp (i+1) l
 | i,.map kt c::l=>(match mp.find? fun p=>p.1==i with
  | some (_,⟨SN,c'⟩) => .map SN c'
  | none => .map kt c)::qP pl mp (i+1) l
 | i,.rows t e c z::l=>(match mp.find? fun p=>p.1==i with
  | some (_,⟨t',c'⟩) => .rows t' e c' z
  | none => .rows t e c z)::qP pl mp (i+1) l
 | i,.own e s::l => .own e s::qP pl mp (i+1) l
 | i,.none::l => .none::qP pl mp (i+1) l
def iw (pl:List (Nat×List TV)) (mp:MpL):Nat→List TB→Option (List Prop)
 | _,[]=>some []
 | i,.cells c::l=>match pl.find? fun p=>p.1==i with
  | some p=>match BZ c p.2,iw pl mp (i+1) l with
   | some x,some y=>some (x++y)
   | _,_=>none
  | none=>iw pl mp (i+1) l
 | i,.map kt c::l=>match mp.find? fun p=>p.1==i with
  | some (_,⟨SN,c'⟩)=>if h:kt=SN then match iw pl mp (i+1) l with
   | some y=>some ((h▸c=c')::y)
   | none=>none else none
  | none=>iw pl mp (i+1) l
 | i,.rows t _ c _::l=>match mp.find? fun p=>p.1==i with
  | some (_,⟨t',c'⟩)=>if h:t=t' then match iw pl mp (i+1) l with
   | some y=>some ((h▸c=c')::y)
   | none=>none else none
  | none=>iw pl mp (i+1) l
 | i,.own _ _::l=>iw pl mp (i+1) l
 | i,.none::l=>iw pl mp (i+1) l
def tn (b:Bd) (tS:List TB):List TB:=qP b.pl b.mp 0 tS++b.own.map fun p => .own p.1 p.2
abbrev KC:=DX→List TV→List TB→Prop
def Uq (J:List (Nat×LA)) (i:Nat) (te:List TV) (tS:List TB):Option LA :=
 match J.find? fun p=>p.1==i with
 | some p=>some (p.2.at te tS)
 | none=>none
def Ns (B:List Nat) (b:Bd) (keep:Nat) (te:List TV) (tS:List TB) (K:Prop):Prop :=
 aM (okB (j6 b.sl keep 0 te) (tn b tS)&&B.all (kR (tn b tS))) (ask (qO b.sl 0 te) (ask (iw b.pl b.mp 0 tS) (xT b.dX K))) False
def Ig (B:List Nat) (jU:List TV) (gM:List TB) (b:Bd) (te:List TV) (tS:List TB) (K:Prop):Prop :=
 aM (okB jU gM&&B.all (kR gM)) (ask (BZ te jU) (ask (ot tS gM) (xT b.dX K))) False
def unK (f:List TV→List TB→(List TV→List TB→Prop)→Prop) (K:List TV→List TB→Prop):Nat→List TV→List TB→Prop
 | 0,te,tS=>K te tS
 | n+1,te,tS=>f te tS (unK f K n)
def Gk (P:Program):Code→Option (Array Oper)
 | .region _ ops true=>if qM P ops then none else some ops
 | _=>none
def Nc (keep:Nat) (ops:Array Oper):Bool:=ops.toList.all fun o=>match o.dst with
 | some d => !keep.testBit d
 | none=>true
def Mf (x:Operand) (te:List TV) (v:Bool) (K:List TV→Prop):Prop :=
 match x with
 | .tmp t=>Ak te t (.val (.bool v)) K
 | _=>K te
variable (B:List Nat) (J:List (Nat×LA))
def sQ:Code→Nat→Nat→List TV→List TB→KC→Prop
 | .skip,_,_,te,tS,K | .label _,_,_,te,tS,K=>K .normal te tS
 | .exit id,_,_,te,tS,K=>K (.exit id) te tS
 | .ret,_,_,te,tS,K=>K .ret te tS
 | .scope c,i,lv,te,tS,K=>sQ c i lv te tS K
 | .block id c,i,lv,te,tS,K=>sQ c i lv te tS fun e te tS=>match e with
  | .exit gE=>if gE=id then K .normal te tS else K (.exit gE) te tS
  | .normal=>K .normal te tS
  | .ret=>K .ret te tS
 | .cond x a b,i,lv,te,tS,K=>match fD te x with
  | some (.val (.bool t))=>aM t (Mf x te true fun te=>sQ a i lv te tS K) (Mf x te false fun te=>sQ b (i+cnt a) lv te tS K)
  | _=>False
 | .seq a b,i,lv,te,tS,K=>match Uq J i te tS with
  | some la=>match Gk P a with
   | some ops=>aM (iP ops (Region.before ops)&&Nc ((lv ||| kM b) &&& (2 ^ 400-1-(defs a))) ops) (lI P ty tt T inl 1 0 ops ops.toList 0 te tS [] fun bT _ _=>la.some fun bd=>ask (qO bd.sl 0 bT) (xT bd.dX True)) False ∧
    la.all fun bd=>impl bd.dX (cS (j6 bd.sl ((lv ||| kM b) &&& (2 ^ 400-1-(defs a))) 0 te) fun jU=>sQ b (i+1+cnt a) lv jU tS K)
   | none=>sQ a (i+1) (lv ||| kM b) te tS (fun e bT bV=>match e with
    | .normal=>la.some fun bd=>Ig B (j6 bd.sl ((lv ||| kM b) &&& (2 ^ 400-1-(defs a))) 0 te) (tn bd tS) bd bT bV True
    | .exit id=>K (.exit id) bT bV
    | .ret=>K .ret bT bV)∧la.all fun bd=>impl bd.dX (cS (j6 bd.sl ((lv ||| kM b) &&& (2 ^ 400-1-(defs a))) 0 te) fun jU=>cH (tn bd tS) fun gM=>sQ b (i+1+cnt a) lv jU gM K)
  | none=>sQ a (i+1) (lv ||| kM b) te tS fun e te tS=>match e with
   | .normal=>sQ b (i+1+cnt a) lv te tS K
   | .exit id=>K (.exit id) te tS
   | .ret=>K .ret te tS
 | .loop c,i,lv,te,tS,K=>match Uq J i te tS with
  | some la=>unK (fun te tS K'=>sQ c (i+1) (lv ||| kM c) te tS fun e te tS=>match e with
    | .normal=>K' te tS
    | .exit id=>K (.exit id) te tS
    | .ret=>K .ret te tS) (fun te tS=>match la.inner.at te tS with
     | .un n=>unK (fun te tS K'=>sQ c (i+1) (lv ||| kM c) te tS fun e te tS=>match e with
      | .normal=>K' te tS
      | .exit id=>K (.exit id) te tS
      | .ret=>K .ret te tS) (fun _ _=>False) (min n 1000) te tS
     | la=>(la.some fun bd=>Ns B bd ((lv ||| kM c) &&& (2 ^ 400-1-(defs c))) te tS (bd.m<1000000)) ∧
   la.all fun bd=>impl bd.dX (cS (j6 bd.sl ((lv ||| kM c) &&& (2 ^ 400-1-(defs c))) 0 te) fun jU=>cH (tn bd tS) fun gM=>sQ c (i+1) (lv ||| kM c) jU gM fun e bT bV=>match e with
    | .normal=>la.some fun bd'=>Ig B (j6 bd'.sl ((lv ||| kM c) &&& (2 ^ 400-1-(defs c))) 0 te) (tn bd' tS) bd' bT bV (bd'.m<bd.m)
    | .exit id=>K (.exit id) bT bV
    | .ret=>K .ret bT bV)) (min la.TJ 1000) te tS
  | none=>False
 | .region _ ops draw,_,_,te,tS,K=>match draw with
  | true=>match qM P ops with
   | true=>aM (iP ops (Region.before ops)) (cH (tS++List.replicate ops.size .none) fun oq=>lI P ty tt T inl 2 tS.length ops ops.toList 0 te oq [] fun te tS fs=>aM (oG (Region.before ops) fs) (cH (jX tS) fun tS=>K .normal te tS) False) False
   | false=>aM (iP ops (Region.before ops)) (lI P ty tt T inl 1 0 ops ops.toList 0 te tS [] fun te _ _=>K .normal te tS) False
  | false=>lI P ty tt T inl 0 0 ops ops.toList 0 te tS [] fun te tS _=>cH (jX tS) fun tS=>K .normal te tS
 | _,_,_,_,_,_=>False
def QB (ty:eV) (rs:List ResultVar) (jV:List (Option TT)) (s:q9) (te:List TV) (tS:List TB):Prop :=
 match xL ty te tS rs with
 | some vs=>cS (s5 tS vs) fun vs=>aM (vs.all eC&&(refs (iJ (aX jV vs))).isEmpty) (s.some fun v _ facts=>ask (U3 (iJ (aX jV vs)) v) (cF facts)) False
 | none=>False
def VT (ty:eV) (rs:List ResultVar) (jV mq:List (Option TT)) (s:q9) (te:List TV) (tS:List TB):Prop :=
 match xL ty te tS rs,tS with
 | some vs,.cells ts::_=>aM (vs.all eC&&(refs (iJ (aX jV vs))).isEmpty&&(ts.all eC&&(gf (aX mq ts)).isEmpty)) (s.some fun v cs facts=>ask (U3 (iJ (aX jV vs)) v) (ask (LJ (aX mq ts) cs) (cF facts))) False
 | _,_=>False
def VS (ty:eV) (rs:List ResultVar) (mq:List (Option TT)) (s:q9) (te:List TV) (tS:List TB):Prop :=
 match xL ty te tS rs,tS with
 | some [.ptr 0 0],.cells ts::_=>aM (ts.all eC&&(gf (aX mq ts)).isEmpty) (s.some fun _ cs facts=>ask (LJ (aX mq ts) cs) (cF facts)) False
 | _,_=>False
def Jv (F:List TV→List TB→Prop) (e:DX) (te:List TV) (tS:List TB):Prop :=
 match e with
 | .exit _=>False
 | .normal=>F te tS
 | .ret=>F te tS
end
def xq (rs:List ResultVar):Nat:=rs.foldl (fun a x=>match x with | .tmp t=>a ||| 2 ^ t | .cell t _=>a ||| 2 ^ t) 0
def Jo (n:Nat) (l:List TV):List TV:=l++List.replicate (n-l.length) .unk
def vW (f:Func):Code:=f.body.getD .skip
def VR (ty:eV) (rs:List ResultVar) (K:TV→List TB→Prop) (te:List TV) (tS:List TB):Prop :=
 match xL ty te tS rs with
 | some vs=>K (iJ vs) tS
 | none=>False
def Dz (P:Program) (ty:eV) (tt:TypeId→Option TT) (T:gN):Nat→Y9
 | 0=>fun _ _ _ _ _=>False
 | d+1=>fun fn j A tS K=>cS (Jo fn.ntmps A) fun te=>sQ P ty tt T (Dz P ty tt T d) (en 0 tS) j (vW fn) 0 (xq fn.results.toList) te tS (Jv (VR ty fn.results.toList K))
end Go.Tv
end
section
namespace Go.Tv
open Go Go.Di Go.Proofs
theorem qd {b:Bool} {A B:Prop} (h:aM b A B):(b=true→A)∧(b=false→B):=by cases b<;>exact⟨fun e=>by cases e<;>exact h,fun e=>by cases e<;>exact h⟩
theorem ki {b:Bool} {A:Prop} (h:aM b A False):b=true∧A:=by
 cases b
 ·exact h.elim
 ·exact⟨rfl,h⟩
theorem iE:∀ {l:List Prop},cF l↔∀ p∈l,p
 | []=>by simp[cF]
 | p::l=>by
  have:=iE (l:=l)
  simp only[cF,this,List.mem_cons,forall_eq_or_imp]
theorem iD:∀ {l:List Prop} {R:Prop},xT l R→cF l∧R
 | [],_,h=>⟨trivial,h⟩
 | p::l,R,h=>by
  obtain⟨h1,h2⟩:=iD h.2
  exact⟨iE.2 (by rintro q hq; rcases List.mem_cons.1 hq with rfl | hq; exact h.1; exact iE.1 h1 q hq),h2⟩
theorem jo {l m:List Prop} (h:cF (l++m)):cF l∧cF m:=by
 rw[iE] at h
 exact⟨iE.2 fun p hp=>h p (List.mem_append_left _ hp),iE.2 fun p hp=>h p (List.mem_append_right _ hp)⟩
theorem jl:∀ {l:List Prop} {R:Prop},impl l R→cF l→R
 | [],_,h,_=>h
 | p::l,R,h,k=>by
  rw[iE] at k
  exact jl (h (k p (List.mem_cons_self ..))) (iE.2 fun q hq=>k q (List.mem_cons_of_mem _ hq))
theorem iX {o:Option (List Prop)} {K:Prop} (h:ask o K):∃ l,o=some l∧cF l∧K:=by
 cases o with
 | none=>exact h.elim
 | some l=>exact⟨l,rfl,iD h⟩
theorem B7 {R K:TV→List TV→List Prop→Prop}:∀ {s:q9},s.all R→s.some K→∃ v cs fs,R v cs fs∧K v cs fs
 | .ex _ _,h,⟨x,k⟩=>B7 (h x) k
 | .res v cs fs,h,k=>⟨v,cs,fs,h,k⟩
theorem KT {R:TV→List TV→Prop} {v:TV} {cs:List TV} {s:q9} (h:s.all fun v cs fs=>impl fs (R v cs)) (k:s.holds v cs):R v cs:=by
 obtain⟨v',jw,fs,h,rfl,rfl,hf⟩:=B7 h k
 exact jl h hf
theorem Ht {R:TV→Prop} {v:TV} {s:q9} (h:s.all fun v _ fs=>impl fs (R v)) (k:s.rM v):R v:=by
 obtain⟨v',jw,fs,h,rfl,hf⟩:=B7 h k
 exact jl h hf
theorem Hu {R:List TV→Prop} {cs:List TV} {s:q9} (h:s.all fun _ cs fs=>impl fs (R cs)) (k:s.uU cs):R cs:=by
 obtain⟨v',jw,fs,h,rfl,hf⟩:=B7 h k
 exact jl h hf
mutual
theorem fM:∀ (v:TV) {K:TV→Prop},gm v K→K v
 | .unk,_,h=>h
 | .val v,_,h=>by cases v<;>exact h
 | .ei,_,h=>h
 | .agg l,K,h=>by simp only[gm] at h; exact b9 l (K:=fun l=>K (.agg l)) h
 | .ee l,K,h=>by simp only[gm] at h; exact b9 l (K:=fun l=>K (.ee l)) h
 | .sl _ _ _,_,h=>h
 | .ptr _ _,_,h=>h
 | .cU _ _ _ _,_,h=>h
 | .mp _,_,h=>h
 | .so _ _,_,h=>h
 | .sp _ _ _ _,_,h=>h
 | .fn f a b,K,h=>by simp only[gm] at h; exact b9 b (K:=fun b=>K (.fn f a b)) (b9 a (K:=fun a=>cS b fun b=>K (.fn f a b)) h)
theorem b9:∀ (l:List TV) {K:List TV→Prop},cS l K→K l
 | [],_,h=>h
 | a::l,K,h=>b9 l (K:=fun l=>K (a::l)) (fM a (K:=fun a=>cS l fun l=>K (a::l)) h)
end
theorem cL:∀ (l:List TB) {K:List TB→Prop},cH l K→K l
 | [],_,h=>h
 | .cells c::l,K,h=>cL l (K:=fun l=>K (.cells c::l)) (b9 c (K:=fun c=>cH l fun l=>K (.cells c::l)) h)
 | .none::l,K,h=>cL l (K:=fun l=>K (.none::l)) h
 | .own e s::l,K,h=>cL l (K:=fun l=>K (.own e s::l)) h
 | .map kt c::l,K,h=>cL l (K:=fun l=>K (.map kt c::l)) h
 | .rows t e c z::l,K,h=>cL l (K:=fun l=>K (.rows t e c z::l)) h
theorem lN:∀ (l:List TV) (n:Nat) (v:TV) {K:List TV→Prop},Ak l n v K→K (l.set n v)
 | [],_,_,_,h=>h
 | _::_,0,_,_,h=>h
 | a::l,n+1,v,K,h=>lN l n v (K:=fun l=>K (a::l)) h
theorem gH {te:List TV} {dst:Option Tmp} {v:TV} {K:List TV→Prop} (h:ir te dst v K):K (jZ te dst v):=by
 cases dst with
 | none=>exact h
 | some d=>exact lN te d v h
theorem lg:∀ {l:List TV} {n:Nat} {v:TV},l[n]? = some v→l.set n v=l
 | [],_,_,h=>by simp at h
 | _::_,0,_,h=>by simp only[List.getElem?_cons_zero,Option.some.injEq] at h; rw[h]; rfl
 | a::l,n+1,v,h=>by rw[List.set_cons_succ,lg (l:=l) (by simpa using h)]
mutual
theorem Ck:∀ {a b:TV} {l:List Prop},U3 a b=some l→cF l→a=b
 | a,b,l,h,k=>by
  unfold U3 at h
  split at h
  ·rfl
  ·split at h
   ·rename_i hk
    subst hk
    cases h
    rw[show _=_ from k.1]
   ·cases h
  ·cases h; rw[show _=_ from k.1]
  ·cases h; rw[show _=_ from k.1]
  ·rfl
  ·rw[rR h k]
  ·rw[rR h k]
  ·split at h
   ·rename_i ht; subst ht; cases h; cases (show _=_ from k.1); rfl
   ·cases h
  ·split at h
   ·rename_i ht; subst ht; cases h; cases (show _=_ from k.1); rfl
   ·cases h
  ·split at h
   ·rename_i ht
    subst ht
    split at h
    ·rename_i hg; subst hg; cases h; cases (show _=_ from k.1); rfl
    ·cases h
   ·cases h
  ·split at h
   ·rename_i ht; obtain⟨rfl,rfl⟩:=ht; rfl
   ·cases h
  ·split at h
   ·rename_i ht; subst ht; rfl
   ·cases h
  ·split at h
   ·rename_i ht; obtain⟨rfl,rfl⟩:=ht; rfl
   ·cases h
  ·split at h
   ·rename_i ht
    subst ht
    cases h
    obtain⟨k1,k2,k3⟩:=k
    cases (show _=_ from k1); cases (show _=_ from k2); cases (show _=_ from k3.1); rfl
   ·cases h
  ·split at h
   ·rename_i hf
    subst hf
    split at h
    ·rename_i x y h1 h2
     cases h
     obtain⟨k1,k2⟩:=jo k
     rw[rR h1 k1,rR h2 k2]
    ·cases h
   ·cases h
  ·cases h
theorem rR:∀ {a b:List TV} {l:List Prop},LJ a b=some l→cF l→a=b
 | [],[],_,_,_=>rfl
 | a::l,b::m,_,h,k=>by
  simp only[LJ] at h
  split at h
  ·rename_i x y h1 h2
   cases h
   obtain⟨k1,k2⟩:=jo k
   rw[Ck h1 k1,rR h2 k2]
  ·cases h
 | [],_::_,_,h,_=>by simp[LJ] at h
 | _::_,[],_,h,_=>by simp[LJ] at h
end
def LeV (u v:TV):Prop:=∀ l m,sX l m→sX (u::l) (v::m)
mutual
theorem Gp:∀ {v u:TV} {l:List Prop},leT v u=some l→cF l→LeV u v
 | v,u,l,h,k=>by
  unfold leT at h
  split at h
  ·exact fun _ _ => .unk
  ·split at h
   ·rename_i ht
    subst ht
    cases h
    cases (show _=_ from k.1)
    exact fun _ _ => .no
   ·cases h
  ·split at h
   ·split at h
    ·rename_i ht
     subst ht
     cases h
     cases (show _=_ from k.1)
     exact fun _ _ => .qA
    ·cases h
   ·cases h
  ·cases h
   cases (show _=_ from k.1)
   exact fun _ _ => .ei
  ·rename_i a b
   have:=tI h k
   exact fun _ _ => .agg this
  ·rw[Ck h k]
   exact fun _ _ => .same
theorem tI:∀ {v u:List TV} {l:List Prop},BZ v u=some l→cF l→sX u v
 | [],[],_,_,_ => .nil
 | a::l,b::m,_,h,k=>by
  simp only[BZ] at h
  split at h
  ·rename_i x y h1 h2
   cases h
   obtain⟨k1,k2⟩:=jo k
   exact Gp h1 k1 _ _ (tI h2 k2)
  ·cases h
 | [],_::_,_,h,_=>by simp[BZ] at h
 | _::_,[],_,h,_=>by simp[BZ] at h
end
theorem RR:∀ {v u:List TB} {l:List Prop},ot v u=some l→cF l→Aa u v
 | v,u,l,h,k=>by
  induction u generalizing v l with
  | nil=>exact .nil
  | cons b m ih =>
   cases v with
   | nil =>
    cases b with
    | own e s=>exact .new (ih _ _ h k)
    | _=>simp[ot] at h
   | cons a v =>
    cases b with
    | none=>exact .none (ih _ _ (by simpa [ot] using h) k)
    | cells c =>
     cases a with
     | cells d =>
      simp only[ot] at h
      split at h
      ·rename_i x y h1 h2
       cases h
       obtain⟨k1,k2⟩:=jo k
       exact .cells (tI h1 k1) (ih _ _ h2 k2)
      ·cases h
     | _=>simp[ot] at h
    | own e s =>
     cases a with
     | own e' s' =>
      simp only[ot] at h
      split at h
      ·rename_i he
       obtain⟨rfl,rfl⟩:=he
       exact .own (ih _ _ h k)
      ·cases h
     | _=>simp[ot] at h
    | map kt c =>
     cases a with
     | map SN c' =>
      simp only[ot] at h
      split at h
      ·rename_i he
       subst he
       split at h
       ·rename_i y h2
        cases h
        obtain⟨k1,k2⟩:=k
        cases (show _=_ from k1)
        exact .map (ih _ _ h2 k2)
       ·cases h
      ·cases h
     | _=>simp[ot] at h
    | rows t e c z =>
     cases a with
     | rows t' e' c' z' =>
      simp only[ot] at h
      split at h
      ·rename_i he
       subst he
       split at h
       ·rename_i hez
        obtain⟨rfl,rfl⟩:=hez
        split at h
        ·rename_i y h2
         cases h
         obtain⟨k1,k2⟩:=k
         cases (show _=_ from k1)
         exact .rows (ih _ _ h2 k2)
        ·cases h
       ·cases h
      ·cases h
     | _=>simp[ot] at h
theorem tZ {sl:List (Nat×TV)} {keep:Nat}:∀ {i:Nat} {te:List TV} {l:List Prop},qO sl i te=some l→cF l→sX (j6 sl keep i te) te
 | _,[],_,_,_ => .nil
 | i,v::te,l,h,k=>by
  simp only[qO] at h
  simp only[j6]
  split at h
  ·rename_i p hp
   split at h
   ·rename_i x y h1 h2
    cases h
    obtain⟨k1,k2⟩:=jo k
    exact Gp h1 k1 _ _ (tZ h2 k2)
   ·cases h
  ·rename_i hp
   split
   ·exact .same (tZ h k)
   ·exact .unk (tZ h k)
theorem gJ {pl:List (Nat×List TV)} {mp:MpL} {own:List (Nat×Nat)}:∀ {i:Nat} {tS:List TB} {l:List Prop},iw pl mp i tS=some l→cF l→Aa (qP pl mp i tS++own.map fun p=>TB.own p.1 p.2) tS
 | _,[],_,_,_=>EO own
 | i,.none::tS,l,h,k=>by
  simp only[iw] at h
  exact .none (gJ h k)
 | i,.own _ _::tS,l,h,k=>by
  simp only[iw] at h
  exact .own (gJ h k)
 | i,.cells c::tS,l,h,k=>by
  simp only[iw] at h
  simp only[qP,List.cons_append]
  split at h
  ·rename_i p hp
   split at h
   ·rename_i x y h1 h2
    cases h
    obtain⟨k1,k2⟩:=jo k
    exact .cells (tI h1 k1) (gJ h2 k2)
   ·cases h
  ·exact .cells (sX.refl c) (gJ h k)
 | i,.map kt c::tS,l,h,k=>by
  simp only[iw] at h
  simp only[qP,List.cons_append]
  split at h
  ·rename_i a SN c' hp
   split at h
   ·rename_i he
    subst he
    split at h
    ·rename_i y h2
     cases h
     obtain⟨k1,k2⟩:=k
     cases (show c=c' from k1)
     exact .map (gJ h2 k2)
    ·cases h
   ·cases h
  ·exact .map (gJ h k)
 | i,.rows kt e c z::tS,l,h,k=>by
  simp only[iw] at h
  simp only[qP,List.cons_append]
  split at h
  ·rename_i a SN c' hp
   split at h
   ·rename_i he
    subst he
    split at h
    ·rename_i y h2
     cases h
     obtain⟨k1,k2⟩:=k
     cases (show c=c' from k1)
     exact .rows (gJ h2 k2)
    ·cases h
   ·cases h
  ·exact .rows (gJ h k)
variable {P:Program} {ty:eV} {tt:TypeId→Option TT} {T:gN} {ι ι' w:jF} {S S':ak} {te jU:List TV} {env:List DV} {tS gM:List TB} {aD:bn} {call:aW} {yf:dH} {o:Oper} {aA nT:Nat} {B:List Nat} {r:TR} {ops:Array Oper} {L:Nat} {fn:FuncId} {fC:Bool}
theorem Hs {v:TV} {c:Prop} (h:yt te o=some (v,c)) (hc:c):bg P ty tt te tS o=some (v,True):=by
 unfold yt at h
 split at h
 ·rename_i t x y _ ho
  split at h
  ·rename_i a b h1 h2
   cases h
   have:gO P (do eqGuard .add t x y (.int .i64 a) (.int .i64 b); binOp .add t (.int .i64 a) (.int .i64 b))=some (.val (.int .i64 (IntKind.i64.wrap (a+b)))):=rfl
   simp only[bg,ho,h1,h2,Option.bind_some,fS,this,sY,Option.map_some,yc hc.1 hc.2]
  ·cases h
 ·rename_i t x y _ ho
  split at h
  ·rename_i a b h1 h2
   cases h
   have:gO P (do eqGuard .sub t x y (.int .i64 a) (.int .i64 b); binOp .sub t (.int .i64 a) (.int .i64 b))=some (.val (.int .i64 (IntKind.i64.wrap (a-b)))):=rfl
   simp only[bg,ho,h1,h2,Option.bind_some,fS,this,sY,Option.map_some,yc hc.1 hc.2]
  ·cases h
 ·rename_i t x y _ ho
  split at h
  ·rename_i a b h1 h2
   cases h
   have:gO P (do eqGuard .mul t x y (.int .i64 a) (.int .i64 b); binOp .mul t (.int .i64 a) (.int .i64 b))=some (.val (.int .i64 (IntKind.i64.wrap (a*b)))):=rfl
   simp only[bg,ho,h1,h2,Option.bind_some,fS,this,sY,Option.map_some,yc hc.1 hc.2]
  ·cases h
 ·rename_i t x ho
  split at h
  ·rename_i a h1
   cases h
   have:gO P (Op.unary .neg (.int .i64 a))=some (.val (.int .i64 (IntKind.i64.wrap (-a)))):=by rw[← Int.zero_sub]; rfl
   simp only[bg,ho,h1,Option.bind_some,fS,this,sY,Option.map_some,yc hc.1 hc.2]
  ·cases h
 ·cases h
theorem Sn {t:TypeId} {xs ys:Array Value} {b:Bool} (ht:P.underlying t=some (.struct (P.fieldsOf t))) (hp:P.stoodInHeld t=false) (hm:P.eqGuardType P.depth t=false) (hf:bI P (Op.eqFields 9999 xs ys (P.fieldsOf t).toList)=some b) (x y:Operand) :
  gO P (do eqGuard .eql t x y (.agg xs) (.agg ys); binOp .eql t (.agg xs) (.agg ys))=some (.val (.bool b)):=by
 have h1:bI P (eqGuard .eql t x y (.agg xs) (.agg ys))=some ():=by
  simp only[eqGuard]
  simp only[Bool.not_true,Bool.false_eq_true,if_false,cQ,jD,Option.bind_some,hm,Bool.not_false,if_true]
  rfl
 have h2:bI P (binOp .eql t (.agg xs) (.agg ys))=some (.bool b):=by
  simp only[binOp,cQ,Op.equal,Op.maxDepth,nR 9999 t xs ys ht hp,hf,Option.bind_some]
  rfl
 rw[gO,cQ,h1,Option.bind_some,h2]
 rfl
theorem I3 {xs ys:Array Value} {fs:List Field} {b:Bool} (h:VU P xs ys fs=some b):bI P (Op.eqFields 9999 xs ys fs)=some b:=yW (fun _ _ _ _ h=>Nr (by omega) h) h
theorem O7 {b:Bool} (h:Ma P te o=some b):bg P ty tt te tS o=some (.val (.bool b),True):=by
 unfold Ma at h
 split at h
 ·rename_i t x y _ ho
  split at h
  ·rename_i xs ys h1 h2
   split at h
   ·rename_i fs h3 h4 h5
    simp only[Option.map_eq_some_iff] at h
    obtain⟨r,h6,rfl⟩:=h
    have e:=Sl (P:=P) (nP h3) h4 h5 (b:=r) (by simp only[Program.fieldsOf,h3]; exact I3 h6) x y
    simp only[bg,ho,h1,h2,e,sY,Option.map_some]
   ·cases h
  ·cases h
 ·rename_i t x y _ ho
  split at h
  ·rename_i xs ys h1 h2
   split at h
   ·rename_i fs h3 h4 h5
    have e:=Sn (P:=P) (nP h3) h4 h5 (b:=b) (by simp only[Program.fieldsOf,h3]; exact I3 h) x y
    simp only[bg,ho,h1,h2,e,sY,Option.map_some]
   ·cases h
  ·cases h
 ·cases h
end Go.Tv
end
