import Derived.Test.YtedcgbkilmlbhaaGreatPk06
section
namespace Go.Tv
open Go Go.Di Go.Proofs
def aN (b:Bool) (A B:Prop):Prop :=
 match b with
 | true=>A
 | false=>B
def yP:List Prop→Prop→Prop
 | [],R=>R
 | p::l,R=>p∧yP l R
def cK:List Prop→Prop
 | []=>True
 | p::l=>p∧cK l
def impl:List Prop→Prop→Prop
 | [],R=>R
 | p::l,R=>p→impl l R
inductive qc:Type 1
 | ex (α:Type) (k:α→qc)
 | res (v:TV) (cs:List TV) (facts:List Prop)
def qc.all:qc→(TV→List TV→List Prop→Prop)→Prop
 | .ex _ k,K=>∀ x,(k x).all K
 | .res v cs fs,K=>K v cs fs
def qc.some:qc→(TV→List TV→List Prop→Prop)→Prop
 | .ex _ k,K=>∃ x,(k x).some K
 | .res v cs fs,K=>K v cs fs
def qc.holds (s:qc) (v:TV) (cs:List TV):Prop:=s.some fun v' iB fs=>v=v'∧cs=iB∧cK fs
def qc.lu (s:qc) (v:TV):Prop:=s.some fun v' _ fs=>v=v'∧cK fs
def qc.wJ (s:qc) (cs:List TV):Prop:=s.some fun _ iB fs=>cs=iB∧cK fs
abbrev Sp:=Option (List Prop×qc)
structure Bd where
 sl:List (Nat×TV)
 pl:List (Nat×List TV):=[]
 own:List (Nat×Nat):=[]
 eF:List Prop:=[]
 mp:List (Nat×(Σ kt:TT,List kt.den)):=[]
 m:Nat:=0
inductive LA:Type 1
 | ex (α:Type) (k:α→LA)
 | st (b:Bd)
 | un (n:Nat)
 | dep (f:List TV→List TB→LA)
 | pe (n:Nat) (a:LA)
def LA.Vl:LA→Nat
 | .pe n _=>n
 | _=>0
def LA.inner:LA→LA
 | .pe _ a=>a
 | a=>a
def LA.at (la:LA) (te:List TV) (tS:List TB):LA :=
 match la with
 | .dep f=>f te tS
 | la=>la
def adl (te:List TV) (i:Nat) (k:List Int→LA):LA :=
 match te.getD i .unk with
 | .sl (.int .i64) l _=>k l
 | _ => .un 0
def LA.all:LA→(Bd→Prop)→Prop
 | .ex _ k,K=>∀ x,(k x).all K
 | .st b,K=>K b
 | _,_=>True
def LA.some:LA→(Bd→Prop)→Prop
 | .ex _ k,K=>∃ x,(k x).some K
 | .st b,K=>K b
 | _,_=>False
structure gD where
 I:FuncId→List TV→Sp
 C:FuncId→List TV→List TV→Sp
 N:FuncId→List TV→Sp
 X:FuncId→Option (Func×List (Nat×LA)):=fun _=>none
 O:FuncId→List TV→Nat→Option (List Prop×TypeId×qc):=fun _ _ _=>none
structure qi (T:gD) (aI:bM) (call:bz):Prop where
 I:∀ g a p s,T.I g a=some (p,s)→cK p→qN aI g a fun v=>s.lu v
 C:∀ g a c p s,T.C g a c=some (p,s)→cK p→x5 call g a c fun v cs=>s.holds v cs
 N:∀ g a p s,T.N g a=some (p,s)→cK p→zO aI call g a fun cs=>s.wJ cs
 O:∀ g a f p e s,T.O g a f=some (p,e,s)→cK p→JI call g a f e fun v=>s.lu v
mutual
def gp (v:TV) (K:TV→Prop):Prop :=
 match v with
 | .unk=>K .unk
 | .val (.int k n)=>K (.val (.int k n))
 | .val (.bool b)=>K (.val (.bool b))
 | .val v=>K (.val v)
 | .gY=>K .gY
 | .agg l=>dx l fun l=>K (.agg l)
 | .tup l=>dx l fun l=>K (.tup l)
 | .sl t l ap=>K (.sl t l ap)
 | .ptr id off=>K (.ptr id off)
 | .ey t l i off=>K (.ey t l i off)
 | .mp id=>K (.mp id)
 | .so g t=>K (.so g t)
 | .sp g t i off=>K (.sp g t i off)
 | .fn f a b=>dx a fun a=>dx b fun b=>K (.fn f a b)
def dx (l:List TV) (K:List TV→Prop):Prop :=
 match l with
 | []=>K []
 | a::l=>gp a fun a=>dx l fun l=>K (a::l)
end
def cS (l:List TB) (K:List TB→Prop):Prop :=
 match l with
 | []=>K []
 | .cells c::l=>dx c fun c=>cS l fun l=>K (.cells c::l)
 | .none::l=>cS l fun l=>K (.none::l)
 | .own e s::l=>cS l fun l=>K (.own e s::l)
 | .map kt c::l=>cS l fun l=>K (.map kt c::l)
 | .rows t e c z::l=>cS l fun l=>K (.rows t e c z::l)
def BJ:List TV→Nat→TV→(List TV→Prop)→Prop
 | [],_,_,K=>K []
 | _::l,0,v,K=>K (v::l)
 | a::l,n+1,v,K=>BJ l n v fun l=>K (a::l)
def iC (te:List TV) (dst:Option Tmp) (v:TV) (K:List TV→Prop):Prop :=
 match dst with
 | some d=>BJ te d v K
 | none=>K te
mutual
def UY:TV→TV→Option (List Prop)
 | .unk,.unk=>some []
 | .val (.int k a),.val (.int k' b)=>if k=k' then some [a=b] else none
 | .val (.bool a),.val (.bool b)=>some [a=b]
 | .val a,.val b=>some [a=b]
 | .gY,.gY=>some []
 | .agg l,.agg m=>Nz l m
 | .tup l,.tup m=>Nz l m
 | .sl t l .no,.sl t' l' .no=>if h:t=t' then some [h▸l=l'] else none
 | .sl t l .full,.sl t' l' .full=>if h:t=t' then some [h▸l=l'] else none
 | .sl t l (.oR g),.sl t' l' (.oR g')=>if h:t=t' then if g=g' then some [h▸l=l'] else none else none
 | .ptr i o,.ptr i' o'=>if i=i'∧o=o' then some [] else none
 | .mp i,.mp i'=>if i=i' then some [] else none
 | .so i t,.so i' t'=>if i=i'∧t=t' then some [] else none
 | .ey t l i o,.ey t' l' i' o'=>if h:t=t' then some [h▸l=l',i=i',o=o'] else none
 | .fn f a b,.fn f' a' b'=>if f=f' then match Nz a a',Nz b b' with
  | some x,some y=>some (x++y)
  | _,_=>none else none
 | _,_=>none
def Nz:List TV→List TV→Option (List Prop)
 | [],[]=>some []
 | a::l,b::m=>match UY a b,Nz l m with
  | some x,some y=>some (x++y)
  | _,_=>none
 | _,_=>none
end
mutual
def leT:TV→TV→Option (List Prop)
 | _,.unk=>some []
 | .sl t l _,.sl t' l' .no=>if h:t=t' then some [h▸l=l'] else none
 | .sl t l .full,.sl t' l' (.oR _)=>match l with
  | []=>if t=t' then some [[]=l'] else none
  | _::_=>none
 | .gY,.sl _ l _=>some [[]=l]
 | .agg l,.agg m=>Ds l m
 | v,u=>UY v u
def Ds:List TV→List TV→Option (List Prop)
 | [],[]=>some []
 | a::l,b::m=>match leT a b,Ds l m with
  | some x,some y=>some (x++y)
  | _,_=>none
 | _,_=>none
end
def qo:List TB→List TB→Option (List Prop)
 | _,[]=>some []
 | _::l,.none::m=>qo l m
 | .cells a::l,.cells b::m=>match Ds a b,qo l m with
  | some x,some y=>some (x++y)
  | _,_=>none
 | .own e s::l,.own e' s'::m=>if e=e'∧s=s' then qo l m else none
 | .map kt a::l,.map UA b::m=>if h:kt=UA then match qo l m with
  | some y=>some ((h▸a=b)::y)
  | none=>none else none
 | .rows t e a z::l,.rows t' e' b z'::m=>if h:t=t' then if e=e'∧z=z' then match qo l m with
  | some y=>some ((h▸a=b)::y)
  | none=>none else none else none
 | [],.own _ _::m=>qo [] m
 | _,_=>none
def ask (o:Option (List Prop)) (K:Prop):Prop :=
 match o with
 | some l=>yP l K
 | none=>False
section
variable (P:Program) (ty:fI) (tt:TypeId→Option TT) (T:gD)
def dZ (n:Int):Prop := -9223372036854775808≤n∧n≤9223372036854775807
def aaM (a b:Int):Int :=
 match a with
 | .ofNat n=>IntKind.i64.wrap ((BitVec.ofInt 64 (.ofNat n) &&& BitVec.ofInt 64 b).toNat:Int)
 | .negSucc n=>IntKind.i64.wrap ((BitVec.ofInt 64 (.negSucc n) &&& BitVec.ofInt 64 b).toNat:Int)
def Ac (te:List TV) (o:Oper):Option (TV×Prop) :=
 match o.op with
 | .binOp .add _ x y _=>match gd te x,gd te y with
  | some (.val (.int .i64 a)),some (.val (.int .i64 b))=>some (.val (.int .i64 (a+b)),dZ (a+b))
  | _,_=>none
 | .binOp .sub _ x y _=>match gd te x,gd te y with
  | some (.val (.int .i64 a)),some (.val (.int .i64 b))=>some (.val (.int .i64 (a-b)),dZ (a-b))
  | _,_=>none
 | .binOp .mul _ x y _=>match gd te x,gd te y with
  | some (.val (.int .i64 a)),some (.val (.int .i64 b))=>some (.val (.int .i64 (a*b)),dZ (a*b))
  | _,_=>none
 | .unOp .neg _ x=>match gd te x with
  | some (.val (.int .i64 a))=>some (.val (.int .i64 (-a)),dZ (-a))
  | _=>none
 | .binOp .and _ x y _=>match gd te x,gd te y with
  | some (.val (.int .i64 a)),some (.val (.int .i64 b))=>some (.val (.int .i64 (aaM a b)),True)
  | _,_=>none
 | _=>none
abbrev Xf (xs ys:Array Value):List Field→Option Bool:=Fs P (eqV P 1) xs ys
def NT (te:List TV) (o:Oper):Option Bool :=
 match o.op with
 | .binOp .neq t x y _=>match (gd te x).bind gn,(gd te y).bind gn with
  | some (.agg xs),some (.agg ys)=>match P.underlying t,P.stoodInHeld t,P.eqGuardType P.depth t with
   | some (.struct fs),false,false=>(Xf P xs ys fs.toList).map fun r => !r
   | _,_,_=>none
  | _,_=>none
 | .binOp .eql t x y _=>match (gd te x).bind gn,(gd te y).bind gn with
  | some (.agg xs),some (.agg ys)=>match P.underlying t,P.stoodInHeld t,P.eqGuardType P.depth t with
   | some (.struct fs),false,false=>Xf P xs ys fs.toList
   | _,_,_=>none
  | _,_=>none
 | _=>none
def wM (o:Oper):Bool :=
 match o.op with
 | .slice .. | .indexAddr .. => true
 | .call { callee := .builtin .append,.. }=>true
 | _=>false
def Xj (te:List TV) (o:Oper):Option (Tmp×Int×Nat) :=
 match o.op with
 | .indexAddr t _ (.tmp i)=>match ty t,te[i]? with
  | some ⟨.array k _ _,_,_⟩,some (.val (.int .i64 n))=>some (i,n,k)
  | _,_=>none
 | .index t _ (.tmp i)=>match ty t,te[i]? with
  | some ⟨.array k _ _,_,_⟩,some (.val (.int .i64 n))=>some (i,n,k)
  | _,_=>none
 | _=>none
def HP (n:Int) (K:Nat→Prop):Nat→Nat→Prop
 | 0,_=>False
 | c+1,j=>aN (decide (n=(j:Int))) (K j) (HP n K c (j+1))
def WA (te:List TV) (o:Oper):Option (Bool×Prop) :=
 match o.op with
 | .binOp .eql t x y _=>match ty t,gd te x,gd te y with
  | some ⟨.slice _ _ _ _,_,_⟩,some (.sl _ l _),some .gY=>some (false,l≠[])
  | some ⟨.slice _ _ _ _,_,_⟩,some .gY,some .gY=>some (true,True)
  | _,_,_=>none
 | _=>none
def zn (tS:List TB) (k:Nat):Bool :=
 match tS[k]? with
 | some (.cells _)=>true
 | _=>false
mutual
def lJ (tS:List TB):TV→TV
 | .sl t l (.oR _) => .sl t l .no
 | .ptr id off=>match zn tS id with
  | true => .ptr id off
  | false => .unk
 | .mp id => .unk
 | .so _ _ => .unk
 | .sp _ _ _ _ => .unk
 | .agg l => .agg (ov tS l)
 | .tup l => .tup (ov tS l)
 | .fn f a b => .fn f (ov tS a) (ov tS b)
 | v=>v
def ov (tS:List TB):List TV→List TV
 | []=>[]
 | a::l=>lJ tS a::ov tS l
end
def eY:Nat→List TB→List Nat
 | _,[]=>[]
 | i,.cells _::l=>i::eY (i+1) l
 | i,_::l=>eY (i+1) l
def abj (o:Oper):Bool :=
 match o.op with
 | .binOp .neq .. | .binOp .eql .. => true
 | _=>false
def JE (te:List TV) (o:Oper):Option (FuncId×List TV) :=
 match o.op with
 | .call { callee := .value f,args,argTypes }=>match gd te f,mG te args.toList with
  | some (.fn g fs cs),some xs=>if (fs++xs++cs).all dR then some (g,bG (gq tt fs argTypes) (fs++xs++cs)) else none
  | _,_=>none
 | _=>none
def HY (te:List TV) (tS:List TB) (o:Oper):Option (FuncId×Nat×List TV×List TV) :=
 match o.op with
 | .call { callee := .value f,args,argTypes }=>match gd te f,mG te args.toList with
  | some (.fn g fs cs),some xs=>match N2 (fs++xs++cs) with
   | some kp=>match uV kp (gq tt fs argTypes) (fs++xs++cs),tS[kp]? with
    | some targs,some (.cells ts)=>if (fs++xs++cs).any isRef&&(gh ts).isEmpty then some (g,kp,targs,ts) else none
    | _,_=>none
   | none=>none
  | _,_=>none
 | _=>none
def HZ (te:List TV) (tS:List TB) (o:Oper):Option (FuncId×Nat×List TV×List TV) :=
 match o.op with
 | .call { callee := .value f,args,argTypes }=>match gd te f,mG te args.toList with
  | some (.fn g fs cs),some xs=>match fs++xs++cs with
   | .ptr kp off::rest=>match tS[kp]? with
    | some (.cells ts)=>if rest.all dR&&ts.all uS then some (g,kp,.ptr 0 off::bG (gq tt fs argTypes).tail rest,ts) else none
    | _=>none
   | _=>none
  | _,_=>none
 | _=>none
def X6 (md:Nat) (te:List TV) (tS:List TB) (o:Oper):Option (FuncId×Nat×List TV×List TV) :=
 match md with
 | 0=>HY tt te tS o
 | 2=>HZ tt te tS o
 | _=>none
def zN (md kp:Nat):cT :=
 match md with
 | 2=>⟨some [kp],true⟩
 | _=>⟨none,true⟩
def Fo (md:Nat) (v:TV) (cs:List TV) (K:Prop):Prop :=
 match md with
 | 2=>match JA v&&cs.all uS with
  | true=>K
  | false=>False
 | _=>K
def aaf (te:List TV) (o:Oper):Option (FuncId×List TV) :=
 match o.op with
 | .call { callee := .value f,args,argTypes:=_ }=>match gd te f,mG te args.toList with
  | some (.fn g fs cs),some xs=>if (fs++xs++cs).any isRef||ty.h o==1 then some (g,fs++xs++cs) else none
  | _,_=>none
 | _=>none
def WG (md:Nat) (te:List TV) (o:Oper):Option (List TV×Func×List (Nat×LA)) :=
 match md with
 | 0=>match aaf ty te o with
  | some (g,A)=>match T.X g with
   | some (fn,j)=>some (A,fn,j)
   | none=>none
  | none=>none
 | _=>none
abbrev Z5:=Func→List (Nat×LA)→List TV→List TB→(TV→List TB→Prop)→Prop
inductive Gd
 | no (b:Bool)
 | ask (d:Tmp) (b want:Bool)
 | unk
def ZY (ops:Array Oper) (te:List TV) (o:Oper):Gd :=
 match o.guard with
 | none => .no true
 | some (j,want)=>match (ops[j]?).bind (·.dst) with
  | some d=>match te[d]? with
   | some (.val (.bool b)) => .ask d b want
   | some .unk => .unk
   | some (.val _) => .no false
   | _ => .unk
  | none => .no false
abbrev KO:=List TV→List TB→List cT→Prop
def fT:cT:=⟨some [],false⟩
def tC (md n0 k:Nat) (tS:List TB):Nat :=
 match md with
 | 2=>n0+k
 | _=>tS.length
variable (inl:Z5)
def N6 (e nT f:Nat) (v:TV) (K:TV→TB→Prop):Prop :=
 match v with
 | .agg tl=>match tl[f]? with
  | some (.sl t B3 .no)=>K (.agg (tl.set f (.so nT t))) (.rows t e B3 false)
  | _=>False
 | _=>False
def DD (md:Nat) (o:Oper) (te:List TV) (tS:List TB) (fs:List cT) (K:KO):Prop :=
 match X6 tt md te tS o with
 | some (g,kp,targs,ts)=>match T.C g targs ts with
  | some (p,s)=>yP p (s.all fun v cs facts=>impl facts (Fo md v cs (gp v fun v=>iC te o.dst v fun te=>dx cs fun cs=>cS (tS.set kp (.cells cs)) fun tS=>K te tS (fs++[zN md kp]))))
  | none=>False
 | none=>False
def Ox (md nT:Nat) (o:Oper) (te:List TV) (tS:List TB) (fs:List cT) (K:KO):Prop :=
 match WG ty T md te o with
 | some (A,fn,j)=>inl fn j A tS fun v cu=>gp v fun v=>dx (ov tS te) fun te=>iC te o.dst v fun te=>K te cu fs
 | none=>match ty.h o==1 with
 | true=>match md,JE tt te o with
  | 0,none=>DD tt T 0 o te tS fs K
  | 2,some (g,targs)=>match T.O g targs (ty.Ny o) with
   | some (p,e,s)=>yP p (s.all fun v _ facts=>impl facts (N6 e nT (ty.Ny o) v fun v b=>gp v fun v=>iC te o.dst v fun te=>cS (nM tS nT b) fun tS=>K te tS (fs++[⟨some [nT],true⟩])))
   | none=>False
  | _,_=>False
 | false=>match JE tt te o with
 | some (g,targs)=>match md==0,T.N g targs with
  | true,some (p,s)=>yP p (s.all fun _ cs facts=>impl facts (iC te o.dst (.ptr tS.length 0) fun te=>K te (tS++[.cells cs]) fs))
  | _,_=>match T.I g targs with
   | some (p,s)=>yP p (s.all fun v _ facts=>impl facts (gp v fun v=>iC te o.dst v fun te=>K te tS (fs++[fT])))
   | none=>False
 | none=>DD tt T md o te tS fs K
def mapM (md:Nat) (te:List TV) (tS:List TB) (o:Oper):Option (TV×List TB×Prop) :=
 match md with
 | 0=>WB P tt te tS o tS.length
 | _=>none
def Vm (md:Nat) (te:List TV) (tS:List TB) (o:Oper) (nT:Nat):Option (TV×List TV×List TB×cT×Prop) :=
 match Fa ty tt te tS o with
 | some (v,g,c)=>some (v,te,tS,⟨some [g],false⟩,c)
 | none=>if md=1 then none else match N5 ty tt te tS o with
  | some (g,cu)=>some (.unk,te,cu,⟨some [g],true⟩,True)
  | none=>if md=0 then (N4 ty tt te tS o nT).map fun r=>(r.1,r.2.1,r.2.2.1,⟨none,true⟩,r.2.2.2) else none
def RP (md n0 k:Nat) (o:Oper) (te:List TV) (tS:List TB) (fs:List cT) (K:KO):Prop :=
 match BM tS (tC md n0 k tS) with
 | false=>False
 | true=>match Yi o with
  | true=>Ox ty tt T inl md (tC md n0 k tS) o te tS fs K
  | false=>match Vm ty tt md te tS o (tC md n0 k tS) with
   | some (v,ck,cu,f,c)=>c∧gp v fun v=>dx ck fun te=>iC te o.dst v fun te=>cS cu fun tS=>K te tS (fs++[f])
   | none=>match mapM P tt md te tS o with
   | some (v,cu,c)=>c∧gp v fun v=>iC te o.dst v fun te=>cS cu fun tS=>K te tS (fs++[⟨none,true⟩])
   | none=>match Ac te o with
   | some (v,c)=>c∧iC te o.dst v fun te=>K te tS (fs++[fT])
   | none=>match abj o,NT P te o,WA ty te o with
    | true,some b,_=>iC te o.dst (.val (.bool b)) fun te=>K te tS (fs++[fT])
    | true,none,some (b,c)=>c∧iC te o.dst (.val (.bool b)) fun te=>K te tS (fs++[fT])
    | _,_,_=>match md with
     | 1=>match bI P ty tt te tS o with
      | some q=>match wM o with
       | true=>q.2∧gp q.1 fun v=>iC te o.dst v fun te=>K te tS (fs++[fT])
       | false=>gp q.1 fun v=>iC te o.dst v fun te=>K te tS (fs++[fT])
      | none=>False
     | _=>match stepT P ty tt te tS o (tC md n0 k tS) with
      | some q=>match wM o with
       | true=>q.c∧gp q.v fun v=>dx q.te fun te=>iC te o.dst v fun te=>cS q.tS fun tS=>K te tS (fs++[⟨some q.Dy,mC o⟩])
       | false=>gp q.v fun v=>iC q.te o.dst v fun te=>cS q.tS fun tS=>K te tS (fs++[⟨some q.Dy,mC o⟩])
      | none=>False
def La (md n0 k:Nat) (o:Oper) (te:List TV) (tS:List TB) (fs:List cT) (K:KO):Prop :=
 match Xj ty te o with
 | some (t,n,c)=>HP n (fun j=>BJ te t (.val (.int .i64 (j:Int))) fun te=>RP P ty tt T inl md n0 k o te tS fs K) c 0
 | none=>RP P ty tt T inl md n0 k o te tS fs K
def Zm (md n0 k:Nat) (o:Oper) (te:List TV) (tS:List TB) (fs:List cT) (K:KO):Prop :=
 match md,ty.h o with
 | 0,2=>match Hy ty te tS o with
  | some (te,tS)=>dx te fun te=>cS tS fun tS=>La P ty tt T inl md n0 k o te tS fs K
  | none=>False
 | _,_=>La P ty tt T inl md n0 k o te tS fs K
def Jp (o:Oper) (te:List TV) (tS:List TB) (fs:List cT) (K:KO):Prop:=iC te o.dst K7 fun te=>K te tS (fs++[fT])
def nt (md n0:Nat) (ops:Array Oper):List Oper→Nat→List TV→List TB→List cT→KO→Prop
 | [],_,te,tS,fs,K=>K te tS fs
 | o::r,k,te,tS,fs,K=>match ZY ops te o with
  | .no true=>Zm P ty tt T inl md n0 k o te tS fs fun te tS fs=>nt md n0 ops r (k+1) te tS fs K
  | .no false=>Jp o te tS fs fun te tS fs=>nt md n0 ops r (k+1) te tS fs K
  | .ask d b want=>match want with
   | true=>aN b (BJ te d (.val (.bool true)) fun te=>Zm P ty tt T inl md n0 k o te tS fs fun te tS fs=>nt md n0 ops r (k+1) te tS fs K) (BJ te d (.val (.bool false)) fun te=>Jp o te tS fs fun te tS fs=>nt md n0 ops r (k+1) te tS fs K)
   | false=>aN b (BJ te d (.val (.bool true)) fun te=>Jp o te tS fs fun te tS fs=>nt md n0 ops r (k+1) te tS fs K) (BJ te d (.val (.bool false)) fun te=>Zm P ty tt T inl md n0 k o te tS fs fun te tS fs=>nt md n0 ops r (k+1) te tS fs K)
  | .unk=>False
def adg (d:Option Tmp):Nat :=
 match d with
 | some d=>2 ^ d
 | none=>0
def X9 (o:Oper):Nat:=o.op.operands.foldl (fun a x=>match x with | .tmp t=>a ||| 2 ^ t | _=>a) 0
def defs:Code→Nat
 | .region _ ops _=>ops.foldl (fun a o=>a ||| adg o.dst) 0
 | .seq a b | .cond _ a b=>defs a ||| defs b
 | .block _ c | .loop c | .scope c=>defs c
 | _=>0
def mD:Code→Nat
 | .region _ ops _=>ops.foldl (fun a o=>a ||| X9 o) 0
 | .seq a b=>mD a ||| mD b
 | .cond x a b=>(match x with | .tmp t=>2 ^ t | _=>0) ||| mD a ||| mD b
 | .block _ c | .loop c | .scope c=>mD c
 | _=>0
def cnt:Code→Nat
 | .seq a b=>1+cnt a+cnt b
 | .cond _ a b=>cnt a+cnt b
 | .block _ c | .scope c=>cnt c
 | .loop c=>1+cnt c
 | _=>0
def lH (sl:List (Nat×TV)) (keep:Nat):Nat→List TV→List TV
 | _,[]=>[]
 | i,v::l=>(match sl.find? fun p=>p.1==i with
  | some p=>p.2
  | none=>match keep.testBit i with
   | true=>v
   | false => .unk)::lH sl keep (i+1) l
def sX (sl:List (Nat×TV)):Nat→List TV→Option (List Prop)
 | _,[]=>some []
 | i,v::l=>match sl.find? fun p=>p.1==i with
  | some p=>match leT v p.2,sX sl (i+1) l with
   | some x,some y=>some (x++y)
   | _,_=>none
  | none=>sX sl (i+1) l
abbrev MpL:=List (Nat×(Σ kt:TT,List kt.den))
def sY (pl:List (Nat×List TV)) (mp:MpL):Nat→List TB→List TB
 | _,[]=>[]
 | i,.cells c::l=>(match pl.find? fun p=>p.1==i with
  | some p => .cells p.2
  | none => .cells c)::sY pl mp (i+1) l
 | i,.map kt c::l=>(match mp.find? fun p=>p.1==i with
  | some (_,⟨UA,c'⟩) => .map UA c'
  | none => .map kt c)::sY pl mp (i+1) l
 | i,.rows t e c z::l=>(match mp.find? fun p=>p.1==i with
  | some (_,⟨t',c'⟩) => .rows t' e c' z
  | none => .rows t e c z)::sY pl mp (i+1) l
 | i,.own e s::l => .own e s::sY pl mp (i+1) l
 | i,.none::l => .none::sY pl mp (i+1) l
def jm (pl:List (Nat×List TV)) (mp:MpL):Nat→List TB→Option (List Prop)
 | _,[]=>some []
 | i,.cells c::l=>match pl.find? fun p=>p.1==i with
  | some p=>match Ds c p.2,jm pl mp (i+1) l with
   | some x,some y=>some (x++y)
   | _,_=>none
  | none=>jm pl mp (i+1) l
 | i,.map kt c::l=>match mp.find? fun p=>p.1==i with
  | some (_,⟨UA,c'⟩)=>if h:kt=UA then match jm pl mp (i+1) l with
   | some y=>some ((h▸c=c')::y)
   | none=>none else none
  | none=>jm pl mp (i+1) l
 | i,.rows t _ c _::l=>match mp.find? fun p=>p.1==i with
  | some (_,⟨t',c'⟩)=>if h:t=t' then match jm pl mp (i+1) l with
   | some y=>some ((h▸c=c')::y)
   | none=>none else none
  | none=>jm pl mp (i+1) l
 | i,.own _ _::l=>jm pl mp (i+1) l
 | i,.none::l=>jm pl mp (i+1) l
def uR (b:Bd) (tS:List TB):List TB:=sY b.pl b.mp 0 tS++b.own.map fun p => .own p.1 p.2
abbrev KC:=DX→List TV→List TB→Prop
def VL (J:List (Nat×LA)) (i:Nat) (te:List TV) (tS:List TB):Option LA :=
 match J.find? fun p=>p.1==i with
 | some p=>some (p.2.at te tS)
 | none=>none
def O5 (B:List Nat) (b:Bd) (keep:Nat) (te:List TV) (tS:List TB) (K:Prop):Prop :=
 aN (okB (lH b.sl keep 0 te) (uR b tS)&&B.all (mK (uR b tS))) (ask (sX b.sl 0 te) (ask (jm b.pl b.mp 0 tS) (yP b.eF K))) False
def Oz (B:List Nat) (mm:List TV) (iT:List TB) (b:Bd) (te:List TV) (tS:List TB) (K:Prop):Prop :=
 aN (okB mm iT&&B.all (mK iT)) (ask (Ds te mm) (ask (qo tS iT) (yP b.eF K))) False
def unK (f:List TV→List TB→(List TV→List TB→Prop)→Prop) (K:List TV→List TB→Prop):Nat→List TV→List TB→Prop
 | 0,te,tS=>K te tS
 | n+1,te,tS=>f te tS (unK f K n)
def HX (P:Program):Code→Option (Array Oper)
 | .region _ ops true=>if sV P ops then none else some ops
 | _=>none
def OU (keep:Nat) (ops:Array Oper):Bool:=ops.toList.all fun o=>match o.dst with
 | some d => !keep.testBit d
 | none=>true
def N0 (x:Operand) (te:List TV) (v:Bool) (K:List TV→Prop):Prop :=
 match x with
 | .tmp t=>BJ te t (.val (.bool v)) K
 | _=>K te
variable (B:List Nat) (J:List (Nat×LA))
def wo:Code→Nat→Nat→List TV→List TB→KC→Prop
 | .skip,_,_,te,tS,K | .label _,_,_,te,tS,K=>K .normal te tS
 | .exit id,_,_,te,tS,K=>K (.exit id) te tS
 | .ret,_,_,te,tS,K=>K .ret te tS
 | .scope c,i,lv,te,tS,K=>wo c i lv te tS K
 | .block id c,i,lv,te,tS,K=>wo c i lv te tS fun e te tS=>match e with
  | .exit gR=>if gR=id then K .normal te tS else K (.exit gR) te tS
  | .normal=>K .normal te tS
  | .ret=>K .ret te tS
 | .cond x a b,i,lv,te,tS,K=>match gd te x with
  | some (.val (.bool t))=>aN t (N0 x te true fun te=>wo a i lv te tS K) (N0 x te false fun te=>wo b (i+cnt a) lv te tS K)
  | _=>False
 | .seq a b,i,lv,te,tS,K=>match VL J i te tS with
  | some la=>match HX P a with
   | some ops=>aN (jK ops (Region.before ops)&&OU ((lv ||| mD b) &&& (2 ^ 400-1-(defs a))) ops) (nt P ty tt T inl 1 0 ops ops.toList 0 te tS [] fun ck _ _=>la.some fun bd=>ask (sX bd.sl 0 ck) (yP bd.eF True)) False ∧
    la.all fun bd=>impl bd.eF (dx (lH bd.sl ((lv ||| mD b) &&& (2 ^ 400-1-(defs a))) 0 te) fun mm=>wo b (i+1+cnt a) lv mm tS K)
   | none=>wo a (i+1) (lv ||| mD b) te tS (fun e ck cu=>match e with
    | .normal=>la.some fun bd=>Oz B (lH bd.sl ((lv ||| mD b) &&& (2 ^ 400-1-(defs a))) 0 te) (uR bd tS) bd ck cu True
    | .exit id=>K (.exit id) ck cu
    | .ret=>K .ret ck cu)∧la.all fun bd=>impl bd.eF (dx (lH bd.sl ((lv ||| mD b) &&& (2 ^ 400-1-(defs a))) 0 te) fun mm=>cS (uR bd tS) fun iT=>wo b (i+1+cnt a) lv mm iT K)
  | none=>wo a (i+1) (lv ||| mD b) te tS fun e te tS=>match e with
   | .normal=>wo b (i+1+cnt a) lv te tS K
   | .exit id=>K (.exit id) te tS
   | .ret=>K .ret te tS
 | .loop c,i,lv,te,tS,K=>match VL J i te tS with
  | some la=>unK (fun te tS K'=>wo c (i+1) (lv ||| mD c) te tS fun e te tS=>match e with
    | .normal=>K' te tS
    | .exit id=>K (.exit id) te tS
    | .ret=>K .ret te tS) (fun te tS=>match la.inner.at te tS with
     | .un n=>unK (fun te tS K'=>wo c (i+1) (lv ||| mD c) te tS fun e te tS=>match e with
      | .normal=>K' te tS
      | .exit id=>K (.exit id) te tS
      | .ret=>K .ret te tS) (fun _ _=>False) (min n 1000) te tS
     | la=>(la.some fun bd=>O5 B bd ((lv ||| mD c) &&& (2 ^ 400-1-(defs c))) te tS (bd.m<1000000)) ∧
   la.all fun bd=>impl bd.eF (dx (lH bd.sl ((lv ||| mD c) &&& (2 ^ 400-1-(defs c))) 0 te) fun mm=>cS (uR bd tS) fun iT=>wo c (i+1) (lv ||| mD c) mm iT fun e ck cu=>match e with
    | .normal=>la.some fun bd'=>Oz B (lH bd'.sl ((lv ||| mD c) &&& (2 ^ 400-1-(defs c))) 0 te) (uR bd' tS) bd' ck cu (bd'.m<bd.m)
    | .exit id=>K (.exit id) ck cu
    | .ret=>K .ret ck cu)) (min la.Vl 1000) te tS
  | none=>False
 | .region _ ops draw,_,_,te,tS,K=>match draw with
  | true=>match sV P ops with
   | true=>aN (jK ops (Region.before ops)) (cS (tS++List.replicate ops.size .none) fun oO=>nt P ty tt T inl 2 tS.length ops ops.toList 0 te oO [] fun te tS fs=>aN (qG (Region.before ops) fs) (cS (lE tS) fun tS=>K .normal te tS) False) False
   | false=>aN (jK ops (Region.before ops)) (nt P ty tt T inl 1 0 ops ops.toList 0 te tS [] fun te _ _=>K .normal te tS) False
  | false=>nt P ty tt T inl 0 0 ops ops.toList 0 te tS [] fun te tS _=>cS (lE tS) fun tS=>K .normal te tS
 | _,_,_,_,_,_=>False
def Xd (ty:fI) (rs:List ResultVar) (gJ:List (Option TT)) (s:qc) (te:List TV) (tS:List TB):Prop :=
 match wv ty te tS rs with
 | some vs=>dx (uJ tS vs) fun vs=>aN (vs.all dR&&(refs (jC (bG gJ vs))).isEmpty) (s.some fun v _ facts=>ask (UY (jC (bG gJ vs)) v) (cK facts)) False
 | none=>False
def Xe (ty:fI) (rs:List ResultVar) (gJ oa:List (Option TT)) (s:qc) (te:List TV) (tS:List TB):Prop :=
 match wv ty te tS rs,tS with
 | some vs,.cells ts::_=>aN (vs.all dR&&(refs (jC (bG gJ vs))).isEmpty&&(ts.all dR&&(gh (bG oa ts)).isEmpty)) (s.some fun v cs facts=>ask (UY (jC (bG gJ vs)) v) (ask (Nz (bG oa ts) cs) (cK facts))) False
 | _,_=>False
def Xc (ty:fI) (rs:List ResultVar) (oa:List (Option TT)) (s:qc) (te:List TV) (tS:List TB):Prop :=
 match wv ty te tS rs,tS with
 | some [.ptr 0 0],.cells ts::_=>aN (ts.all dR&&(gh (bG oa ts)).isEmpty) (s.some fun _ cs facts=>ask (Nz (bG oa ts) cs) (cK facts)) False
 | _,_=>False
def VP (f:Nat) (s:qc) (tl:List TV):Prop :=
 match tl[f]? with
 | some (.sl t' _ .no)=>aN (t'.sc&&(gh tl).isEmpty) (s.some fun v _ facts=>ask (UY (.agg tl) v) (cK facts)) False
 | _=>False
def VM (gJ:List (Option TT)) (f:Nat) (s:qc) (l:List TV):Prop :=
 match jC (bG gJ [.agg l]) with
 | .agg tl=>VP f s tl
 | _=>False
def Ow (gJ:List (Option TT)) (f:Nat) (e:TypeId) (s:qc) (tS:List TB) (l:List TV):Prop :=
 match l[f]? with
 | some (.sl _ B3 (.oR g))=>match tS[g]? with
  | some (.own e' 1)=>aN (e'==e&&Lc tS g f 0 l&&dR (.agg l)) (B3≠[]∧VM gJ f s l) False
  | _=>False
 | _=>False
def Xb (ty:fI) (rs:List ResultVar) (gJ:List (Option TT)) (f:Nat) (e:TypeId) (s:qc) (te:List TV) (tS:List TB):Prop :=
 match wv ty te tS rs with
 | some [.agg l]=>dx l fun l=>Ow gJ f e s tS l
 | _=>False
def Lh (F:List TV→List TB→Prop) (e:DX) (te:List TV) (tS:List TB):Prop :=
 match e with
 | .exit _=>False
 | .normal=>F te tS
 | .ret=>F te tS
end
def u7 (rs:List ResultVar):Nat:=rs.foldl (fun a x=>match x with | .tmp t=>a ||| 2 ^ t | .cell t _=>a ||| 2 ^ t) 0
def K9 (n:Nat) (l:List TV):List TV:=l++List.replicate (n-l.length) .unk
def xX (f:Func):Code:=f.body.getD .skip
def Xa (ty:fI) (rs:List ResultVar) (K:TV→List TB→Prop) (te:List TV) (tS:List TB):Prop :=
 match wv ty te tS rs with
 | some vs=>K (jC vs) tS
 | none=>False
def Le (P:Program) (ty:fI) (tt:TypeId→Option TT) (T:gD):Nat→Z5
 | 0=>fun _ _ _ _ _=>False
 | d+1=>fun fn j A tS K=>dx (K9 fn.ntmps A) fun te=>wo P ty tt T (Le P ty tt T d) (eY 0 tS) j (xX fn) 0 (u7 fn.results.toList) te tS (Lh (Xa ty fn.results.toList K))
end Go.Tv
end
section
namespace Go.Tv
open Go Go.Di Go.Proofs
theorem rW {b:Bool} {A B:Prop} (h:aN b A B):(b=true→A)∧(b=false→B):=by cases b<;>exact⟨fun e=>by cases e<;>exact h,fun e=>by cases e<;>exact h⟩
theorem jL {b:Bool} {A:Prop} (h:aN b A False):b=true∧A:=by
 cases b
 ·exact h.elim
 ·exact⟨rfl,h⟩
theorem jy:∀ {l:List Prop},cK l↔∀ p∈l,p
 | []=>by simp[cK]
 | p::l=>by
  have:=jy (l:=l)
  simp only[cK,this,bt,forall_eq_or_imp]
theorem iH:∀ {l:List Prop} {R:Prop},yP l R→cK l∧R
 | [],_,h=>⟨trivial,h⟩
 | p::l,R,h=>by
  obtain⟨h1,h2⟩:=iH h.2
  exact⟨jy.2 (by rintro q hq; rcases bt.1 hq with rfl | hq; exact h.1; exact jy.1 h1 q hq),h2⟩
theorem kz {l m:List Prop} (h:cK (l++m)):cK l∧cK m:=by
 rw[jy] at h
 exact⟨jy.2 fun p hp=>h p (List.mem_append_left _ hp),jy.2 fun p hp=>h p (List.mem_append_right _ hp)⟩
theorem ko:∀ {l:List Prop} {R:Prop},impl l R→cK l→R
 | [],_,h,_=>h
 | p::l,R,h,k=>by
  rw[jy] at k
  exact ko (h (k p (kO ..))) (jy.2 fun q hq=>k q (List.mem_cons_of_mem _ hq))
theorem jd {o:Option (List Prop)} {K:Prop} (h:ask o K):∃ l,o=some l∧cK l∧K:=by
 cases o with
 | none=>exact h.elim
 | some l=>exact⟨l,rfl,iH h⟩
theorem DC {R K:TV→List TV→List Prop→Prop}:∀ {s:qc},s.all R→s.some K→∃ v cs fs,R v cs fs∧K v cs fs
 | .ex _ _,h,⟨x,k⟩=>DC (h x) k
 | .res v cs fs,h,k=>⟨v,cs,fs,h,k⟩
theorem MF {R:TV→List TV→Prop} {v:TV} {cs:List TV} {s:qc} (h:s.all fun v cs fs=>impl fs (R v cs)) (k:s.holds v cs):R v cs:=by
 obtain⟨v',iB,fs,h,rfl,rfl,hf⟩:=DC h k
 exact ko h hf
theorem Bl {R:TV→Prop} {v:TV} {s:qc} (h:s.all fun v _ fs=>impl fs (R v)) (k:s.lu v):R v:=by
 obtain⟨v',iB,fs,h,rfl,hf⟩:=DC h k
 exact ko h hf
theorem Jb {R:List TV→Prop} {cs:List TV} {s:qc} (h:s.all fun _ cs fs=>impl fs (R cs)) (k:s.wJ cs):R cs:=by
 obtain⟨v',iB,fs,h,rfl,hf⟩:=DC h k
 exact ko h hf
mutual
theorem ga:∀ (v:TV) {K:TV→Prop},gp v K→K v
 | .unk,_,h=>h
 | .val v,_,h=>by cases v<;>exact h
 | .gY,_,h=>h
 | .agg l,K,h=>by simp only[gp] at h; exact cr l (K:=fun l=>K (.agg l)) h
 | .tup l,K,h=>by simp only[gp] at h; exact cr l (K:=fun l=>K (.tup l)) h
 | .sl _ _ _,_,h=>h
 | .ptr _ _,_,h=>h
 | .ey _ _ _ _,_,h=>h
 | .mp _,_,h=>h
 | .so _ _,_,h=>h
 | .sp _ _ _ _,_,h=>h
 | .fn f a b,K,h=>by simp only[gp] at h; exact cr b (K:=fun b=>K (.fn f a b)) (cr a (K:=fun a=>dx b fun b=>K (.fn f a b)) h)
theorem cr:∀ (l:List TV) {K:List TV→Prop},dx l K→K l
 | [],_,h=>h
 | a::l,K,h=>cr l (K:=fun l=>K (a::l)) (ga a (K:=fun a=>dx l fun l=>K (a::l)) h)
end
theorem dg:∀ (l:List TB) {K:List TB→Prop},cS l K→K l
 | [],_,h=>h
 | .cells c::l,K,h=>dg l (K:=fun l=>K (.cells c::l)) (cr c (K:=fun c=>cS l fun l=>K (.cells c::l)) h)
 | .none::l,K,h=>dg l (K:=fun l=>K (.none::l)) h
 | .own e s::l,K,h=>dg l (K:=fun l=>K (.own e s::l)) h
 | .map kt c::l,K,h=>dg l (K:=fun l=>K (.map kt c::l)) h
 | .rows t e c z::l,K,h=>dg l (K:=fun l=>K (.rows t e c z::l)) h
theorem nA:∀ (l:List TV) (n:Nat) (v:TV) {K:List TV→Prop},BJ l n v K→K (l.set n v)
 | [],_,_,_,h=>h
 | _::_,0,_,_,h=>h
 | a::l,n+1,v,K,h=>nA l n v (K:=fun l=>K (a::l)) h
theorem gO {te:List TV} {dst:Option Tmp} {v:TV} {K:List TV→Prop} (h:iC te dst v K):K (lF te dst v):=by
 cases dst with
 | none=>exact h
 | some d=>exact nA te d v h
theorem mS:∀ {l:List TV} {n:Nat} {v:TV},l[n]? = some v→l.set n v=l
 | [],_,_,h=>by simp at h
 | _::_,0,_,h=>by simp only[List.getElem?_cons_zero,az] at h; rw[h]; rfl
 | a::l,n+1,v,h=>by rw[List.set_cons_succ,mS (l:=l) (by simpa using h)]
mutual
theorem zZ:∀ {a b:TV} {l:List Prop},UY a b=some l→cK l→a=b
 | a,b,l,h,k=>by
  unfold UY at h
  split at h
  ·rfl
  ·split at h
   ·rename_i hk
    subst hk
    cases h
    rw[show _=_ from k.1]
   ·cases h
  ·cases h; rw[show _=_ from k.1]
  ·cases h; rw[show _=_ from k.1]
  ·rfl
  ·rw[tP h k]
  ·rw[tP h k]
  ·split at h
   ·rename_i ht; subst ht; cases h; cases (show _=_ from k.1); rfl
   ·cases h
  ·split at h
   ·rename_i ht; subst ht; cases h; cases (show _=_ from k.1); rfl
   ·cases h
  ·split at h
   ·rename_i ht
    subst ht
    split at h
    ·rename_i hg; subst hg; cases h; cases (show _=_ from k.1); rfl
    ·cases h
   ·cases h
  ·split at h
   ·rename_i ht; obtain⟨rfl,rfl⟩:=ht; rfl
   ·cases h
  ·split at h
   ·rename_i ht; subst ht; rfl
   ·cases h
  ·split at h
   ·rename_i ht; obtain⟨rfl,rfl⟩:=ht; rfl
   ·cases h
  ·split at h
   ·rename_i ht
    subst ht
    cases h
    obtain⟨k1,k2,k3⟩:=k
    cases (show _=_ from k1); cases (show _=_ from k2); cases (show _=_ from k3.1); rfl
   ·cases h
  ·split at h
   ·rename_i hf
    subst hf
    split at h
    ·rename_i x y h1 h2
     cases h
     obtain⟨k1,k2⟩:=kz k
     rw[tP h1 k1,tP h2 k2]
    ·cases h
   ·cases h
  ·cases h
theorem tP:∀ {a b:List TV} {l:List Prop},Nz a b=some l→cK l→a=b
 | [],[],_,_,_=>rfl
 | a::l,b::m,_,h,k=>by
  simp only[Nz] at h
  split at h
  ·rename_i x y h1 h2
   cases h
   obtain⟨k1,k2⟩:=kz k
   rw[zZ h1 k1,tP h2 k2]
  ·cases h
 | [],_::_,_,h,_=>by simp[Nz] at h
 | _::_,[],_,h,_=>by simp[Nz] at h
end
def LeV (u v:TV):Prop:=∀ l m,uE l m→uE (u::l) (v::m)
mutual
theorem H6:∀ {v u:TV} {l:List Prop},leT v u=some l→cK l→LeV u v
 | v,u,l,h,k=>by
  unfold leT at h
  split at h
  ·exact fun _ _ => .unk
  ·split at h
   ·rename_i ht
    subst ht
    cases h
    cases (show _=_ from k.1)
    exact fun _ _ => .no
   ·cases h
  ·split at h
   ·split at h
    ·rename_i ht
     subst ht
     cases h
     cases (show _=_ from k.1)
     exact fun _ _ => .oR
    ·cases h
   ·cases h
  ·cases h
   cases (show _=_ from k.1)
   exact fun _ _ => .gY
  ·rename_i a b
   have:=vc h k
   exact fun _ _ => .agg this
  ·rw[zZ h k]
   exact fun _ _ => .same
theorem vc:∀ {v u:List TV} {l:List Prop},Ds v u=some l→cK l→uE u v
 | [],[],_,_,_ => .nil
 | a::l,b::m,_,h,k=>by
  simp only[Ds] at h
  split at h
  ·rename_i x y h1 h2
   cases h
   obtain⟨k1,k2⟩:=kz k
   exact H6 h1 k1 _ _ (vc h2 k2)
  ·cases h
 | [],_::_,_,h,_=>by simp[Ds] at h
 | _::_,[],_,h,_=>by simp[Ds] at h
end
theorem TP:∀ {v u:List TB} {l:List Prop},qo v u=some l→cK l→Bx u v
 | v,u,l,h,k=>by
  induction u generalizing v l with
  | nil=>exact .nil
  | cons b m ih =>
   cases v with
   | nil =>
    cases b with
    | own e s=>exact .new (ih _ _ h k)
    | _=>simp[qo] at h
   | cons a v =>
    cases b with
    | none=>exact .none (ih _ _ (by simpa [qo] using h) k)
    | cells c =>
     cases a with
     | cells d =>
      simp only[qo] at h
      split at h
      ·rename_i x y h1 h2
       cases h
       obtain⟨k1,k2⟩:=kz k
       exact .cells (vc h1 k1) (ih _ _ h2 k2)
      ·cases h
     | _=>simp[qo] at h
    | own e s =>
     cases a with
     | own e' s' =>
      simp only[qo] at h
      split at h
      ·rename_i he
       obtain⟨rfl,rfl⟩:=he
       exact .own (ih _ _ h k)
      ·cases h
     | _=>simp[qo] at h
    | map kt c =>
     cases a with
     | map UA c' =>
      simp only[qo] at h
      split at h
      ·rename_i he
       subst he
       split at h
       ·rename_i y h2
        cases h
        obtain⟨k1,k2⟩:=k
        cases (show _=_ from k1)
        exact .map (ih _ _ h2 k2)
       ·cases h
      ·cases h
     | _=>simp[qo] at h
    | rows t e c z =>
     cases a with
     | rows t' e' c' z' =>
      simp only[qo] at h
      split at h
      ·rename_i he
       subst he
       split at h
       ·rename_i hez
        obtain⟨rfl,rfl⟩:=hez
        split at h
        ·rename_i y h2
         cases h
         obtain⟨k1,k2⟩:=k
         cases (show _=_ from k1)
         exact .rows (ih _ _ h2 k2)
        ·cases h
       ·cases h
      ·cases h
     | _=>simp[qo] at h
theorem vF {sl:List (Nat×TV)} {keep:Nat}:∀ {i:Nat} {te:List TV} {l:List Prop},sX sl i te=some l→cK l→uE (lH sl keep i te) te
 | _,[],_,_,_ => .nil
 | i,v::te,l,h,k=>by
  simp only[sX] at h
  simp only[lH]
  split at h
  ·rename_i p hp
   split at h
   ·rename_i x y h1 h2
    cases h
    obtain⟨k1,k2⟩:=kz k
    exact H6 h1 k1 _ _ (vF h2 k2)
   ·cases h
  ·rename_i hp
   split
   ·exact .same (vF h k)
   ·exact .unk (vF h k)
theorem iG {pl:List (Nat×List TV)} {mp:MpL} {own:List (Nat×Nat)}:∀ {i:Nat} {tS:List TB} {l:List Prop},jm pl mp i tS=some l→cK l→Bx (sY pl mp i tS++own.map fun p=>TB.own p.1 p.2) tS
 | _,[],_,_,_=>Gc own
 | i,.none::tS,l,h,k=>by
  simp only[jm] at h
  exact .none (iG h k)
 | i,.own _ _::tS,l,h,k=>by
  simp only[jm] at h
  exact .own (iG h k)
 | i,.cells c::tS,l,h,k=>by
  simp only[jm] at h
  simp only[sY,List.cons_append]
  split at h
  ·rename_i p hp
   split at h
   ·rename_i x y h1 h2
    cases h
    obtain⟨k1,k2⟩:=kz k
    exact .cells (vc h1 k1) (iG h2 k2)
   ·cases h
  ·exact .cells (uE.refl c) (iG h k)
 | i,.map kt c::tS,l,h,k=>by
  simp only[jm] at h
  simp only[sY,List.cons_append]
  split at h
  ·rename_i a UA c' hp
   split at h
   ·rename_i he
    subst he
    split at h
    ·rename_i y h2
     cases h
     obtain⟨k1,k2⟩:=k
     cases (show c=c' from k1)
     exact .map (iG h2 k2)
    ·cases h
   ·cases h
  ·exact .map (iG h k)
 | i,.rows kt e c z::tS,l,h,k=>by
  simp only[jm] at h
  simp only[sY,List.cons_append]
  split at h
  ·rename_i a UA c' hp
   split at h
   ·rename_i he
    subst he
    split at h
    ·rename_i y h2
     cases h
     obtain⟨k1,k2⟩:=k
     cases (show c=c' from k1)
     exact .rows (iG h2 k2)
    ·cases h
   ·cases h
  ·exact .rows (iG h k)
variable {P:Program} {ty:fI} {tt:TypeId→Option TT} {T:gD} {ι ι' w:lK} {S S':ak} {te mm:List TV} {env:List DV} {tS iT:List TB} {aI:bM} {call:bz} {yf:eE} {o:Oper} {ay nT:Nat} {B:List Nat} {r:TR} {ops:Array Oper} {L:Nat} {fn:FuncId} {gW:Bool}
theorem Ja {v:TV} {c:Prop} (h:Ac te o=some (v,c)) (hc:c):bI P ty tt te tS o=some (v,True):=by
 unfold Ac at h
 split at h
 ·rename_i t x y _ ho
  split at h
  ·rename_i a b h1 h2
   cases h
   have:gZ P (do eqGuard .add t x y (.int .i64 a) (.int .i64 b); binOp .add t (.int .i64 a) (.int .i64 b))=some (.val (.int .i64 (IntKind.i64.wrap (a+b)))):=rfl
   simp only[bI,ho,h1,h2,Option.bind_some,gn,this,tq,Option.map_some,zP hc.1 hc.2]
  ·cases h
 ·rename_i t x y _ ho
  split at h
  ·rename_i a b h1 h2
   cases h
   have:gZ P (do eqGuard .sub t x y (.int .i64 a) (.int .i64 b); binOp .sub t (.int .i64 a) (.int .i64 b))=some (.val (.int .i64 (IntKind.i64.wrap (a-b)))):=rfl
   simp only[bI,ho,h1,h2,Option.bind_some,gn,this,tq,Option.map_some,zP hc.1 hc.2]
  ·cases h
 ·rename_i t x y _ ho
  split at h
  ·rename_i a b h1 h2
   cases h
   have:gZ P (do eqGuard .mul t x y (.int .i64 a) (.int .i64 b); binOp .mul t (.int .i64 a) (.int .i64 b))=some (.val (.int .i64 (IntKind.i64.wrap (a*b)))):=rfl
   simp only[bI,ho,h1,h2,Option.bind_some,gn,this,tq,Option.map_some,zP hc.1 hc.2]
  ·cases h
 ·rename_i t x ho
  split at h
  ·rename_i a h1
   cases h
   have:gZ P (Op.unary .neg (.int .i64 a))=some (.val (.int .i64 (IntKind.i64.wrap (-a)))):=by rw[← Int.zero_sub]; rfl
   simp only[bI,ho,h1,Option.bind_some,gn,this,tq,Option.map_some,zP hc.1 hc.2]
  ·cases h
 ·rename_i t x y _ ho
  split at h
  ·rename_i a b h1 h2
   cases h
   have:gZ P (do eqGuard .and t x y (.int .i64 a) (.int .i64 b); binOp .and t (.int .i64 a) (.int .i64 b))=some (.val (.int .i64 (aaM a b))):=by cases a<;>rfl
   simp only[bI,ho,h1,h2,Option.bind_some,gn,this,tq,Option.map_some]
  ·cases h
 ·cases h
theorem Un {t:TypeId} {xs ys:Array Value} {b:Bool} (ht:P.underlying t=some (.struct (P.fieldsOf t))) (hp:P.stoodInHeld t=false) (hm:P.eqGuardType P.depth t=false) (hf:b7 P (Op.eqFields 9999 xs ys (P.fieldsOf t).toList)=some b) (x y:Operand) :
  gZ P (do eqGuard .eql t x y (.agg xs) (.agg ys); binOp .eql t (.agg xs) (.agg ys))=some (.val (.bool b)):=by
 have h1:b7 P (eqGuard .eql t x y (.agg xs) (.agg ys))=some ():=by
  simp only[eqGuard]
  simp only[eO,aD,if_false,dH,kQ,Option.bind_some,hm,Bool.not_false,if_true]
  rfl
 have h2:b7 P (binOp .eql t (.agg xs) (.agg ys))=some (.bool b):=by
  simp only[binOp,dH,Op.equal,Op.maxDepth,pW 9999 t xs ys ht hp,hf,Option.bind_some]
  rfl
 rw[gZ,dH,h1,Option.bind_some,h2]
 rfl
theorem KH {xs ys:Array Value} {fs:List Field} {b:Bool} (h:Xf P xs ys fs=some b):b7 P (Op.eqFields 9999 xs ys fs)=some b:=AL (fun _ _ _ _ h=>O4 (by omega) h) h
theorem QI {b:Bool} (h:NT P te o=some b):bI P ty tt te tS o=some (.val (.bool b),True):=by
 unfold NT at h
 split at h
 ·rename_i t x y _ ho
  split at h
  ·rename_i xs ys h1 h2
   split at h
   ·rename_i fs h3 h4 h5
    simp only[ah] at h
    obtain⟨r,h6,rfl⟩:=h
    have e:=Um (P:=P) (pV h3) h4 h5 (b:=r) (by simp only[Program.fieldsOf,h3]; exact KH h6) x y
    simp only[bI,ho,h1,h2,e,tq,Option.map_some]
   ·cases h
  ·cases h
 ·rename_i t x y _ ho
  split at h
  ·rename_i xs ys h1 h2
   split at h
   ·rename_i fs h3 h4 h5
    have e:=Un (P:=P) (pV h3) h4 h5 (b:=b) (by simp only[Program.fieldsOf,h3]; exact KH h) x y
    simp only[bI,ho,h1,h2,e,tq,Option.map_some]
   ·cases h
  ·cases h
 ·cases h
end Go.Tv
end
