import Derived.Test.YtedcgbkilmlbhaaGreatPk06
section
namespace Go.Tv
open Go Go.Di Go.Proofs
def ay (b:Bool) (A B:Prop):Prop :=
 match b with
 | true=>A
 | false=>B
def zL:List Prop→Prop→Prop
 | [],R=>R
 | p::l,R=>p∧zL l R
def dx:List Prop→Prop
 | []=>True
 | p::l=>p∧dx l
def impl:List Prop→Prop→Prop
 | [],R=>R
 | p::l,R=>p→impl l R
inductive s7:Type 1
 | ex (α:Type) (k:α→s7)
 | res (v:TV) (cs:List TV) (facts:List Prop)
def s7.all:s7→(TV→List TV→List Prop→Prop)→Prop
 | .ex _ k,K=>∀ x,(k x).all K
 | .res v cs fs,K=>K v cs fs
def s7.some:s7→(TV→List TV→List Prop→Prop)→Prop
 | .ex _ k,K=>∃ x,(k x).some K
 | .res v cs fs,K=>K v cs fs
def s7.holds (s:s7) (v:TV) (cs:List TV):Prop:=s.some fun v' iU fs=>v=v'∧cs=iU∧dx fs
def s7.tV (s:s7) (v:TV):Prop:=s.some fun v' _ fs=>v=v'∧dx fs
def s7.wQ (s:s7) (cs:List TV):Prop:=s.some fun _ iU fs=>cs=iU∧dx fs
abbrev Sp:=Option (List Prop×s7)
structure Bd where
 sl:List (Nat×TV)
 pl:List (Nat×List TV):=[]
 own:List (Nat×Nat):=[]
 cB:List Prop:=[]
 mp:List (Nat×(Σ kt:TT,List kt.den)):=[]
 m:Nat:=0
inductive LA:Type 1
 | ex (α:Type) (k:α→LA)
 | st (b:Bd)
 | un (n:Nat)
 | dep (f:List TV→List TB→LA)
 | pe (n:Nat) (a:LA)
def LA.VS:LA→Nat
 | .pe n _=>n
 | _=>0
def LA.inner:LA→LA
 | .pe _ a=>a
 | a=>a
def LA.at (la:LA) (te:List TV) (tS:List TB):LA :=
 match la with
 | .dep f=>f te tS
 | la=>la
def Yc (te:List TV) (i:Nat) (k:List Int→LA):LA :=
 match te.getD i .unk with
 | .sl (.int .i64) l _=>k l
 | _ => .un 0
def LA.all:LA→(Bd→Prop)→Prop
 | .ex _ k,K=>∀ x,(k x).all K
 | .st b,K=>K b
 | _,_=>True
def LA.some:LA→(Bd→Prop)→Prop
 | .ex _ k,K=>∃ x,(k x).some K
 | .st b,K=>K b
 | _,_=>False
structure gd where
 I:FuncId→List TV→Sp
 C:FuncId→List TV→List TV→Sp
 N:FuncId→List TV→Sp
 X:FuncId→Option (Func×List (Nat×LA)):=fun _=>none
structure qN (T:gd) (aI:bP) (call:bM):Prop where
 I:∀ g a p s,T.I g a=some (p,s)→dx p→qR aI g a fun v=>s.tV v
 C:∀ g a c p s,T.C g a c=some (p,s)→dx p→x5 call g a c fun v cs=>s.holds v cs
 N:∀ g a p s,T.N g a=some (p,s)→dx p→zX aI call g a fun cs=>s.wQ cs
mutual
def iI (v:TV) (K:TV→Prop):Prop :=
 match v with
 | .unk=>K .unk
 | .val (.int k n)=>K (.val (.int k n))
 | .val (.bool b)=>K (.val (.bool b))
 | .val v=>K (.val v)
 | .gZ=>K .gZ
 | .agg l=>dW l fun l=>K (.agg l)
 | .gI l=>dW l fun l=>K (.gI l)
 | .sl t l ap=>K (.sl t l ap)
 | .ptr id off=>K (.ptr id off)
 | .eS t l i off=>K (.eS t l i off)
 | .mp id=>K (.mp id)
 | .so g t=>K (.so g t)
 | .sp g t i off=>K (.sp g t i off)
 | .fn f a b=>dW a fun a=>dW b fun b=>K (.fn f a b)
def dW (l:List TV) (K:List TV→Prop):Prop :=
 match l with
 | []=>K []
 | a::l=>iI a fun a=>dW l fun l=>K (a::l)
end
def dI (l:List TB) (K:List TB→Prop):Prop :=
 match l with
 | []=>K []
 | .cells c::l=>dW c fun c=>dI l fun l=>K (.cells c::l)
 | .none::l=>dI l fun l=>K (.none::l)
 | .own e s::l=>dI l fun l=>K (.own e s::l)
 | .map kt c::l=>dI l fun l=>K (.map kt c::l)
 | .rows t e c z::l=>dI l fun l=>K (.rows t e c z::l)
def BL:List TV→Nat→TV→(List TV→Prop)→Prop
 | [],_,_,K=>K []
 | _::l,0,v,K=>K (v::l)
 | a::l,n+1,v,K=>BL l n v fun l=>K (a::l)
def jH (te:List TV) (dst:Option Tmp) (v:TV) (K:List TV→Prop):Prop :=
 match dst with
 | some d=>BL te d v K
 | none=>K te
mutual
def WW:TV→TV→Option (List Prop)
 | .unk,.unk=>some []
 | .val (.int k a),.val (.int k' b)=>if k=k' then some [a=b] else none
 | .val (.bool a),.val (.bool b)=>some [a=b]
 | .val a,.val b=>some [a=b]
 | .gZ,.gZ=>some []
 | .agg l,.agg m=>NM l m
 | .gI l,.gI m=>NM l m
 | .sl t l .no,.sl t' l' .no=>if h:t=t' then some [h▸l=l'] else none
 | .sl t l .full,.sl t' l' .full=>if h:t=t' then some [h▸l=l'] else none
 | .sl t l (.nQ g),.sl t' l' (.nQ g')=>if h:t=t' then if g=g' then some [h▸l=l'] else none else none
 | .ptr i o,.ptr i' o'=>if i=i'∧o=o' then some [] else none
 | .mp i,.mp i'=>if i=i' then some [] else none
 | .so i t,.so i' t'=>if i=i'∧t=t' then some [] else none
 | .eS t l i o,.eS t' l' i' o'=>if h:t=t' then some [h▸l=l',i=i',o=o'] else none
 | .fn f a b,.fn f' a' b'=>if f=f' then match NM a a',NM b b' with
  | some x,some y=>some (x++y)
  | _,_=>none else none
 | _,_=>none
def NM:List TV→List TV→Option (List Prop)
 | [],[]=>some []
 | a::l,b::m=>match WW a b,NM l m with
  | some x,some y=>some (x++y)
  | _,_=>none
 | _,_=>none
end
mutual
def leT:TV→TV→Option (List Prop)
 | _,.unk=>some []
 | .sl t l _,.sl t' l' .no=>if h:t=t' then some [h▸l=l'] else none
 | .sl t l .full,.sl t' l' (.nQ _)=>match l with
  | []=>if t=t' then some [[]=l'] else none
  | _::_=>none
 | .gZ,.sl _ l _=>some [[]=l]
 | .agg l,.agg m=>Dv l m
 | v,u=>WW v u
def Dv:List TV→List TV→Option (List Prop)
 | [],[]=>some []
 | a::l,b::m=>match leT a b,Dv l m with
  | some x,some y=>some (x++y)
  | _,_=>none
 | _,_=>none
end
def qA:List TB→List TB→Option (List Prop)
 | _,[]=>some []
 | _::l,.none::m=>qA l m
 | .cells a::l,.cells b::m=>match Dv a b,qA l m with
  | some x,some y=>some (x++y)
  | _,_=>none
 | .own e s::l,.own e' s'::m=>if e=e'∧s=s' then qA l m else none
 | .map kt a::l,.map U8 b::m=>if h:kt=U8 then match qA l m with
  | some y=>some ((h▸a=b)::y)
  | none=>none else none
 | .rows t e a z::l,.rows t' e' b z'::m=>if h:t=t' then if e=e'∧z=z' then match qA l m with
  | some y=>some ((h▸a=b)::y)
  | none=>none else none else none
 | [],.own _ _::m=>qA [] m
 | _,_=>none
def ask (o:Option (List Prop)) (K:Prop):Prop :=
 match o with
 | some l=>zL l K
 | none=>False
section
variable (P:Program) (ty:gF) (tt:TypeId→Option TT) (T:gd)
def cn (n:Int):Prop := -9223372036854775808≤n∧n≤9223372036854775807
def DD (a b:Int):Int :=
 match a with
 | .ofNat n=>IntKind.i64.wrap ((BitVec.ofInt 64 (.ofNat n) &&& BitVec.ofInt 64 b).toNat:Int)
 | .negSucc n=>IntKind.i64.wrap ((BitVec.ofInt 64 (.negSucc n) &&& BitVec.ofInt 64 b).toNat:Int)
def Ag (te:List TV) (o:Oper):Option (TV×Prop) :=
 match o.op with
 | .binOp .add _ x y _=>match gE te x,gE te y with
  | some (.val (.int .i64 a)),some (.val (.int .i64 b))=>some (.val (.int .i64 (a+b)),cn (a+b))
  | _,_=>none
 | .binOp .sub _ x y _=>match gE te x,gE te y with
  | some (.val (.int .i64 a)),some (.val (.int .i64 b))=>some (.val (.int .i64 (a-b)),cn (a-b))
  | _,_=>none
 | .binOp .mul _ x y _=>match gE te x,gE te y with
  | some (.val (.int .i64 a)),some (.val (.int .i64 b))=>some (.val (.int .i64 (a*b)),cn (a*b))
  | _,_=>none
 | .unOp .neg _ x=>match gE te x with
  | some (.val (.int .i64 a))=>some (.val (.int .i64 (-a)),cn (-a))
  | _=>none
 | .binOp .and _ x y _=>match gE te x,gE te y with
  | some (.val (.int .i64 a)),some (.val (.int .i64 b))=>some (.val (.int .i64 (DD a b)),True)
  | _,_=>none
 | _=>none
abbrev XI (xs ys:Array Value):List Field→Option Bool:=FG P (eqV P 1) xs ys
def Oa (te:List TV) (o:Oper):Option Bool :=
 match o.op with
 | .binOp .neq t x y _=>match (gE te x).bind gJ,(gE te y).bind gJ with
  | some (.agg xs),some (.agg ys)=>match P.underlying t,P.stoodInHeld t,P.eqGuardType P.depth t with
   | some (.struct fs),false,false=>(XI P xs ys fs.toList).map fun r => !r
   | _,_,_=>none
  | _,_=>none
 | .binOp .eql t x y _=>match (gE te x).bind gJ,(gE te y).bind gJ with
  | some (.agg xs),some (.agg ys)=>match P.underlying t,P.stoodInHeld t,P.eqGuardType P.depth t with
   | some (.struct fs),false,false=>XI P xs ys fs.toList
   | _,_,_=>none
  | _,_=>none
 | _=>none
def wT (o:Oper):Bool :=
 match o.op with
 | .slice .. | .indexAddr .. => true
 | .call { callee := .builtin .append,.. }=>true
 | _=>false
def XM (te:List TV) (o:Oper):Option (Tmp×Int×Nat) :=
 match o.op with
 | .indexAddr t _ (.tmp i)=>match ty t,te[i]? with
  | some ⟨.array k _ _,_,_⟩,some (.val (.int .i64 n))=>some (i,n,k)
  | _,_=>none
 | .index t _ (.tmp i)=>match ty t,te[i]? with
  | some ⟨.array k _ _,_,_⟩,some (.val (.int .i64 n))=>some (i,n,k)
  | _,_=>none
 | _=>none
def H7 (n:Int) (K:Nat→Prop):Nat→Nat→Prop
 | 0,_=>False
 | c+1,j=>ay (decide (n=(j:Int))) (K j) (H7 n K c (j+1))
def Xh (te:List TV) (o:Oper):Option (Bool×Prop) :=
 match o.op with
 | .binOp .eql t x y _=>match ty t,gE te x,gE te y with
  | some ⟨.slice _ _ _ _,_,_⟩,some (.sl _ l _),some .gZ=>some (false,l≠[])
  | some ⟨.slice _ _ _ _,_,_⟩,some .gZ,some .gZ=>some (true,True)
  | _,_,_=>none
 | _=>none
def zc (tS:List TB) (k:Nat):Bool :=
 match tS[k]? with
 | some (.cells _)=>true
 | _=>false
mutual
def mg (tS:List TB):TV→TV
 | .sl t l (.nQ _) => .sl t l .no
 | .ptr id off=>match zc tS id with
  | true => .ptr id off
  | false => .unk
 | .mp id => .unk
 | .so _ _ => .unk
 | .sp _ _ _ _ => .unk
 | .agg l => .agg (oS tS l)
 | .gI l => .gI (oS tS l)
 | .fn f a b => .fn f (oS tS a) (oS tS b)
 | v=>v
def oS (tS:List TB):List TV→List TV
 | []=>[]
 | a::l=>mg tS a::oS tS l
end
def fK:Nat→List TB→List Nat
 | _,[]=>[]
 | i,.cells _::l=>i::fK (i+1) l
 | i,_::l=>fK (i+1) l
def abp (o:Oper):Bool :=
 match o.op with
 | .binOp .neq .. | .binOp .eql .. => true
 | _=>false
def OP (te:List TV) (o:Oper):Option (FuncId×List TV) :=
 match o.op with
 | .call { callee := .value f,args,argTypes }=>match gE te f,nP te args.toList with
  | some (.fn g fs cs),some xs=>if (fs++xs++cs).all gf then some (g,bN (iK tt fs argTypes) (fs++xs++cs)) else none
  | _,_=>none
 | _=>none
def Ih (te:List TV) (tS:List TB) (o:Oper):Option (FuncId×Nat×List TV×List TV) :=
 match o.op with
 | .call { callee := .value f,args,argTypes }=>match gE te f,nP te args.toList with
  | some (.fn g fs cs),some xs=>match Oj (fs++xs++cs) with
   | some kp=>match u7 kp (iK tt fs argTypes) (fs++xs++cs),tS[kp]? with
    | some targs,some (.cells ts)=>if (fs++xs++cs).any isRef&&(iD ts).isEmpty then some (g,kp,targs,ts) else none
    | _,_=>none
   | none=>none
  | _,_=>none
 | _=>none
def Ii (te:List TV) (tS:List TB) (o:Oper):Option (FuncId×Nat×List TV×List TV) :=
 match o.op with
 | .call { callee := .value f,args,argTypes }=>match gE te f,nP te args.toList with
  | some (.fn g fs cs),some xs=>match fs++xs++cs with
   | .ptr kp off::rest=>match tS[kp]? with
    | some (.cells ts)=>if rest.all gf&&ts.all uZ then some (g,kp,.ptr 0 off::bN (iK tt fs argTypes).tail rest,ts) else none
    | _=>none
   | _=>none
  | _,_=>none
 | _=>none
def YJ (md:Nat) (te:List TV) (tS:List TB) (o:Oper):Option (FuncId×Nat×List TV×List TV) :=
 match md with
 | 0=>Ih tt te tS o
 | 2=>Ii tt te tS o
 | _=>none
def zW (md kp:Nat):dh :=
 match md with
 | 2=>⟨some [kp],true⟩
 | _=>⟨none,true⟩
def FD (md:Nat) (v:TV) (cs:List TV) (K:Prop):Prop :=
 match md with
 | 2=>match JQ v&&cs.all uZ with
  | true=>K
  | false=>False
 | _=>K
def aai (te:List TV) (o:Oper):Option (FuncId×List TV) :=
 match o.op with
 | .call { callee := .value f,args,argTypes:=_ }=>match gE te f,nP te args.toList with
  | some (.fn g fs cs),some xs=>if (fs++xs++cs).any isRef||ty.h o==1 then some (g,fs++xs++cs) else none
  | _,_=>none
 | _=>none
def Xk (md:Nat) (te:List TV) (o:Oper):Option (List TV×Func×List (Nat×LA)) :=
 match md with
 | 0=>match aai ty te o with
  | some (g,A)=>match T.X g with
   | some (fn,j)=>some (A,fn,j)
   | none=>none
  | none=>none
 | _=>none
abbrev Inl:=Func→List (Nat×LA)→List TV→List TB→(TV→List TB→Prop)→Prop
inductive Gd
 | no (b:Bool)
 | ask (d:Tmp) (b want:Bool)
 | unk
def gdT (ops:Array Oper) (te:List TV) (o:Oper):Gd :=
 match o.guard with
 | none => .no true
 | some (j,want)=>match (ops[j]?).bind (·.dst) with
  | some d=>match te[d]? with
   | some (.val (.bool b)) => .ask d b want
   | some .unk => .unk
   | some (.val _) => .no false
   | _ => .unk
  | none => .no false
abbrev KO:=List TV→List TB→List dh→Prop
def gv:dh:=⟨some [],false⟩
def Lu (md n0 k:Nat) (tS:List TB):Nat :=
 match md with
 | 2=>n0+k
 | _=>tS.length
variable (inl:Inl)
def OQ (md:Nat) (o:Oper) (te:List TV) (tS:List TB) (fs:List dh) (K:KO):Prop :=
 match Xk ty T md te o with
 | some (A,fn,j)=>inl fn j A tS fun v cN=>iI v fun v=>dW (oS tS te) fun te=>jH te o.dst v fun te=>K te cN fs
 | none=>match ty.h o==1 with
 | true=>False
 | false=>match OP tt te o with
 | some (g,targs)=>match md==0,T.N g targs with
  | true,some (p,s)=>zL p (s.all fun _ cs facts=>impl facts (jH te o.dst (.ptr tS.length 0) fun te=>K te (tS++[.cells cs]) fs))
  | _,_=>match T.I g targs with
   | some (p,s)=>zL p (s.all fun v _ facts=>impl facts (iI v fun v=>jH te o.dst v fun te=>K te tS (fs++[gv])))
   | none=>False
 | none=>match YJ tt md te tS o with
  | some (g,kp,targs,ts)=>match T.C g targs ts with
   | some (p,s)=>zL p (s.all fun v cs facts=>impl facts (FD md v cs (iI v fun v=>jH te o.dst v fun te=>dW cs fun cs=>dI (tS.set kp (.cells cs)) fun tS=>K te tS (fs++[zW md kp]))))
   | none=>False
  | none=>False
def mapM (md:Nat) (te:List TV) (tS:List TB) (o:Oper):Option (TV×List TB×Prop) :=
 match md with
 | 0=>Xi P tt te tS o tS.length
 | _=>none
def VT (md:Nat) (te:List TV) (tS:List TB) (o:Oper) (nT:Nat):Option (TV×List TV×List TB×dh×Prop) :=
 match Fs ty tt te tS o with
 | some (v,g,c)=>some (v,te,tS,⟨some [g],false⟩,c)
 | none=>if md=1 then none else match On ty tt te tS o with
  | some (g,cN)=>some (.unk,te,cN,⟨some [g],true⟩,True)
  | none=>if md=0 then (Om ty tt te tS o nT).map fun r=>(r.1,r.2.1,r.2.2.1,⟨none,true⟩,r.2.2.2) else none
def SH (md n0 k:Nat) (o:Oper) (te:List TV) (tS:List TB) (fs:List dh) (K:KO):Prop :=
 match Du tS (Lu md n0 k tS) with
 | false=>False
 | true=>match YV o with
  | true=>OQ ty tt T inl md o te tS fs K
  | false=>match VT ty tt md te tS o (Lu md n0 k tS) with
   | some (v,cL,cN,f,c)=>c∧iI v fun v=>dW cL fun te=>jH te o.dst v fun te=>dI cN fun tS=>K te tS (fs++[f])
   | none=>match mapM P tt md te tS o with
   | some (v,cN,c)=>c∧iI v fun v=>jH te o.dst v fun te=>dI cN fun tS=>K te tS (fs++[⟨none,true⟩])
   | none=>match Ag te o with
   | some (v,c)=>c∧jH te o.dst v fun te=>K te tS (fs++[gv])
   | none=>match abp o,Oa P te o,Xh ty te o with
    | true,some b,_=>jH te o.dst (.val (.bool b)) fun te=>K te tS (fs++[gv])
    | true,none,some (b,c)=>c∧jH te o.dst (.val (.bool b)) fun te=>K te tS (fs++[gv])
    | _,_,_=>match md with
     | 1=>match bL P ty tt te tS o with
      | some q=>match wT o with
       | true=>q.2∧iI q.1 fun v=>jH te o.dst v fun te=>K te tS (fs++[gv])
       | false=>iI q.1 fun v=>jH te o.dst v fun te=>K te tS (fs++[gv])
      | none=>False
     | _=>match stepT P ty tt te tS o (Lu md n0 k tS) with
      | some q=>match wT o with
       | true=>q.c∧iI q.v fun v=>dW q.te fun te=>jH te o.dst v fun te=>dI q.tS fun tS=>K te tS (fs++[⟨some q.DC,mZ o⟩])
       | false=>iI q.v fun v=>jH q.te o.dst v fun te=>dI q.tS fun tS=>K te tS (fs++[⟨some q.DC,mZ o⟩])
      | none=>False
def Lt (md n0 k:Nat) (o:Oper) (te:List TV) (tS:List TB) (fs:List dh) (K:KO):Prop :=
 match XM ty te o with
 | some (t,n,c)=>H7 n (fun j=>BL te t (.val (.int .i64 (j:Int))) fun te=>SH P ty tt T inl md n0 k o te tS fs K) c 0
 | none=>SH P ty tt T inl md n0 k o te tS fs K
def Z6 (md n0 k:Nat) (o:Oper) (te:List TV) (tS:List TB) (fs:List dh) (K:KO):Prop :=
 match md,ty.h o with
 | 0,2=>match HN ty te tS o with
  | some (te,tS)=>dW te fun te=>dI tS fun tS=>Lt P ty tt T inl md n0 k o te tS fs K
  | none=>False
 | _,_=>Lt P ty tt T inl md n0 k o te tS fs K
def JF (o:Oper) (te:List TV) (tS:List TB) (fs:List dh) (K:KO):Prop:=jH te o.dst Lm fun te=>K te tS (fs++[gv])
def nS (md n0:Nat) (ops:Array Oper):List Oper→Nat→List TV→List TB→List dh→KO→Prop
 | [],_,te,tS,fs,K=>K te tS fs
 | o::r,k,te,tS,fs,K=>match gdT ops te o with
  | .no true=>Z6 P ty tt T inl md n0 k o te tS fs fun te tS fs=>nS md n0 ops r (k+1) te tS fs K
  | .no false=>JF o te tS fs fun te tS fs=>nS md n0 ops r (k+1) te tS fs K
  | .ask d b want=>match want with
   | true=>ay b (BL te d (.val (.bool true)) fun te=>Z6 P ty tt T inl md n0 k o te tS fs fun te tS fs=>nS md n0 ops r (k+1) te tS fs K) (BL te d (.val (.bool false)) fun te=>JF o te tS fs fun te tS fs=>nS md n0 ops r (k+1) te tS fs K)
   | false=>ay b (BL te d (.val (.bool true)) fun te=>JF o te tS fs fun te tS fs=>nS md n0 ops r (k+1) te tS fs K) (BL te d (.val (.bool false)) fun te=>Z6 P ty tt T inl md n0 k o te tS fs fun te tS fs=>nS md n0 ops r (k+1) te tS fs K)
  | .unk=>False
def ady (d:Option Tmp):Nat :=
 match d with
 | some d=>2 ^ d
 | none=>0
def YM (o:Oper):Nat:=o.op.operands.foldl (fun a x=>match x with | .tmp t=>a ||| 2 ^ t | _=>a) 0
def defs:Code→Nat
 | .region _ ops _=>ops.foldl (fun a o=>a ||| ady o.dst) 0
 | .seq a b | .cond _ a b=>defs a ||| defs b
 | .block _ c | .loop c | .scope c=>defs c
 | _=>0
def ng:Code→Nat
 | .region _ ops _=>ops.foldl (fun a o=>a ||| YM o) 0
 | .seq a b=>ng a ||| ng b
 | .cond x a b=>(match x with | .tmp t=>2 ^ t | _=>0) ||| ng a ||| ng b
 | .block _ c | .loop c | .scope c=>ng c
 | _=>0
def cnt:Code→Nat
 | .seq a b=>1+cnt a+cnt b
 | .cond _ a b=>cnt a+cnt b
 | .block _ c | .scope c=>cnt c
 | .loop c=>1+cnt c
 | _=>0
def mb (sl:List (Nat×TV)) (keep:Nat):Nat→List TV→List TV
 | _,[]=>[]
 | i,v::l=>(match sl.find? fun p=>p.1==i with
  | some p=>p.2
  | none=>match keep.testBit i with
   | true=>v
   | false => .unk)::mb sl keep (i+1) l
def tg (sl:List (Nat×TV)):Nat→List TV→Option (List Prop)
 | _,[]=>some []
 | i,v::l=>match sl.find? fun p=>p.1==i with
  | some p=>match leT v p.2,tg sl (i+1) l with
   | some x,some y=>some (x++y)
   | _,_=>none
  | none=>tg sl (i+1) l
abbrev MpL:=List (Nat×(Σ kt:TT,List kt.den))
def th (pl:List (Nat×List TV)) (mp:MpL):Nat→List TB→List TB
 | _,[]=>[]
 | i,.cells c::l=>(match pl.find? fun p=>p.1==i with
  | some p => .cells p.2
  | none => .cells c)::th pl mp (i+1) l
 | i,.map kt c::l=>(match mp.find? fun p=>p.1==i with
  | some (_,⟨U8,c'⟩) => .map U8 c'
  | none => .map kt c)::th pl mp (i+1) l
 | i,.rows t e c z::l=>(match mp.find? fun p=>p.1==i with
  | some (_,⟨t',c'⟩) => .rows t' e c' z
  | none => .rows t e c z)::th pl mp (i+1) l
 | i,.own e s::l => .own e s::th pl mp (i+1) l
 | i,.none::l => .none::th pl mp (i+1) l
def jK (pl:List (Nat×List TV)) (mp:MpL):Nat→List TB→Option (List Prop)
 | _,[]=>some []
 | i,.cells c::l=>match pl.find? fun p=>p.1==i with
  | some p=>match Dv c p.2,jK pl mp (i+1) l with
   | some x,some y=>some (x++y)
   | _,_=>none
  | none=>jK pl mp (i+1) l
 | i,.map kt c::l=>match mp.find? fun p=>p.1==i with
  | some (_,⟨U8,c'⟩)=>if h:kt=U8 then match jK pl mp (i+1) l with
   | some y=>some ((h▸c=c')::y)
   | none=>none else none
  | none=>jK pl mp (i+1) l
 | i,.rows t _ c _::l=>match mp.find? fun p=>p.1==i with
  | some (_,⟨t',c'⟩)=>if h:t=t' then match jK pl mp (i+1) l with
   | some y=>some ((h▸c=c')::y)
   | none=>none else none
  | none=>jK pl mp (i+1) l
 | i,.own _ _::l=>jK pl mp (i+1) l
 | i,.none::l=>jK pl mp (i+1) l
def uY (b:Bd) (tS:List TB):List TB:=th b.pl b.mp 0 tS++b.own.map fun p => .own p.1 p.2
abbrev KC:=DX→List TV→List TB→Prop
def Wj (J:List (Nat×LA)) (i:Nat) (te:List TV) (tS:List TB):Option LA :=
 match J.find? fun p=>p.1==i with
 | some p=>some (p.2.at te tS)
 | none=>none
def PA (B:List Nat) (b:Bd) (keep:Nat) (te:List TV) (tS:List TB) (K:Prop):Prop :=
 ay (okB (mb b.sl keep 0 te) (uY b tS)&&B.all (nw (uY b tS))) (ask (tg b.sl 0 te) (ask (jK b.pl b.mp 0 tS) (zL b.cB K))) False
def JW (B:List Nat) (mh:List TV) (jh:List TB) (b:Bd) (te:List TV) (tS:List TB) (K:Prop):Prop :=
 ay (okB mh jh&&B.all (nw jh)) (ask (Dv te mh) (ask (qA tS jh) (zL b.cB K))) False
def unK (f:List TV→List TB→(List TV→List TB→Prop)→Prop) (K:List TV→List TB→Prop):Nat→List TV→List TB→Prop
 | 0,te,tS=>K te tS
 | n+1,te,tS=>f te tS (unK f K n)
def Ig (P:Program):Code→Option (Array Oper)
 | .region _ ops true=>if tc P ops then none else some ops
 | _=>none
def Pm (keep:Nat) (ops:Array Oper):Bool:=ops.toList.all fun o=>match o.dst with
 | some d => !keep.testBit d
 | none=>true
def Oh (x:Operand) (te:List TV) (v:Bool) (K:List TV→Prop):Prop :=
 match x with
 | .tmp t=>BL te t (.val (.bool v)) K
 | _=>K te
variable (B:List Nat) (J:List (Nat×LA))
def xE:Code→Nat→Nat→List TV→List TB→KC→Prop
 | .skip,_,_,te,tS,K | .label _,_,_,te,tS,K=>K .normal te tS
 | .exit id,_,_,te,tS,K=>K (.exit id) te tS
 | .ret,_,_,te,tS,K=>K .ret te tS
 | .scope c,i,lv,te,tS,K=>xE c i lv te tS K
 | .block id c,i,lv,te,tS,K=>xE c i lv te tS fun e te tS=>match e with
  | .exit iT=>if iT=id then K .normal te tS else K (.exit iT) te tS
  | .normal=>K .normal te tS
  | .ret=>K .ret te tS
 | .cond x a b,i,lv,te,tS,K=>match gE te x with
  | some (.val (.bool t))=>ay t (Oh x te true fun te=>xE a i lv te tS K) (Oh x te false fun te=>xE b (i+cnt a) lv te tS K)
  | _=>False
 | .seq a b,i,lv,te,tS,K=>match Wj J i te tS with
  | some la=>match Ig P a with
   | some ops=>ay (j8 ops (Region.before ops)&&Pm ((lv ||| ng b) &&& (2 ^ 400-1-(defs a))) ops) (nS P ty tt T inl 1 0 ops ops.toList 0 te tS [] fun cL _ _=>la.some fun bd=>ask (tg bd.sl 0 cL) (zL bd.cB True)) False ∧
    la.all fun bd=>impl bd.cB (dW (mb bd.sl ((lv ||| ng b) &&& (2 ^ 400-1-(defs a))) 0 te) fun mh=>xE b (i+1+cnt a) lv mh tS K)
   | none=>xE a (i+1) (lv ||| ng b) te tS (fun e cL cN=>match e with
    | .normal=>la.some fun bd=>JW B (mb bd.sl ((lv ||| ng b) &&& (2 ^ 400-1-(defs a))) 0 te) (uY bd tS) bd cL cN True
    | .exit id=>K (.exit id) cL cN
    | .ret=>K .ret cL cN)∧la.all fun bd=>impl bd.cB (dW (mb bd.sl ((lv ||| ng b) &&& (2 ^ 400-1-(defs a))) 0 te) fun mh=>dI (uY bd tS) fun jh=>xE b (i+1+cnt a) lv mh jh K)
  | none=>xE a (i+1) (lv ||| ng b) te tS fun e te tS=>match e with
   | .normal=>xE b (i+1+cnt a) lv te tS K
   | .exit id=>K (.exit id) te tS
   | .ret=>K .ret te tS
 | .loop c,i,lv,te,tS,K=>match Wj J i te tS with
  | some la=>unK (fun te tS K'=>xE c (i+1) (lv ||| ng c) te tS fun e te tS=>match e with
    | .normal=>K' te tS
    | .exit id=>K (.exit id) te tS
    | .ret=>K .ret te tS) (fun te tS=>match la.inner.at te tS with
     | .un n=>unK (fun te tS K'=>xE c (i+1) (lv ||| ng c) te tS fun e te tS=>match e with
      | .normal=>K' te tS
      | .exit id=>K (.exit id) te tS
      | .ret=>K .ret te tS) (fun _ _=>False) (min n 1000) te tS
     | la=>(la.some fun bd=>PA B bd ((lv ||| ng c) &&& (2 ^ 400-1-(defs c))) te tS (bd.m<1000000)) ∧
   la.all fun bd=>impl bd.cB (dW (mb bd.sl ((lv ||| ng c) &&& (2 ^ 400-1-(defs c))) 0 te) fun mh=>dI (uY bd tS) fun jh=>xE c (i+1) (lv ||| ng c) mh jh fun e cL cN=>match e with
    | .normal=>la.some fun bd'=>JW B (mb bd'.sl ((lv ||| ng c) &&& (2 ^ 400-1-(defs c))) 0 te) (uY bd' tS) bd' cL cN (bd'.m<bd.m)
    | .exit id=>K (.exit id) cL cN
    | .ret=>K .ret cL cN)) (min la.VS 1000) te tS
  | none=>False
 | .region _ ops draw,_,_,te,tS,K=>match draw with
  | true=>match tc P ops with
   | true=>ay (j8 ops (Region.before ops)) (dI (tS++List.replicate ops.size .none) fun qz=>nS P ty tt T inl 2 tS.length ops ops.toList 0 te qz [] fun te tS fs=>ay (qL (Region.before ops) fs) (dI (lX tS) fun tS=>K .normal te tS) False) False
   | false=>ay (j8 ops (Region.before ops)) (nS P ty tt T inl 1 0 ops ops.toList 0 te tS [] fun te _ _=>K .normal te tS) False
  | false=>nS P ty tt T inl 0 0 ops ops.toList 0 te tS [] fun te tS _=>dI (lX tS) fun tS=>K .normal te tS
 | _,_,_,_,_,_=>False
def XG (ty:gF) (rs:List ResultVar) (lU:List (Option TT)) (s:s7) (te:List TV) (tS:List TB):Prop :=
 match zF ty te tS rs with
 | some vs=>dW (zN tS vs) fun vs=>ay (vs.all gf&&(refs (kG (bN lU vs))).isEmpty) (s.some fun v _ facts=>ask (WW (kG (bN lU vs)) v) (dx facts)) False
 | none=>False
def XH (ty:gF) (rs:List ResultVar) (lU oK:List (Option TT)) (s:s7) (te:List TV) (tS:List TB):Prop :=
 match zF ty te tS rs,tS with
 | some vs,.cells ts::_=>ay (vs.all gf&&(refs (kG (bN lU vs))).isEmpty&&(ts.all gf&&(iD (bN oK ts)).isEmpty)) (s.some fun v cs facts=>ask (WW (kG (bN lU vs)) v) (ask (NM (bN oK ts) cs) (dx facts))) False
 | _,_=>False
def XF (ty:gF) (rs:List ResultVar) (oK:List (Option TT)) (s:s7) (te:List TV) (tS:List TB):Prop :=
 match zF ty te tS rs,tS with
 | some [.ptr 0 0],.cells ts::_=>ay (ts.all gf&&(iD (bN oK ts)).isEmpty) (s.some fun _ cs facts=>ask (NM (bN oK ts) cs) (dx facts)) False
 | _,_=>False
def N7 (F:List TV→List TB→Prop) (e:DX) (te:List TV) (tS:List TB):Prop :=
 match e with
 | .exit _=>False
 | .normal=>F te tS
 | .ret=>F te tS
end
def yY (rs:List ResultVar):Nat:=rs.foldl (fun a x=>match x with | .tmp t=>a ||| 2 ^ t | .cell t _=>a ||| 2 ^ t) 0
def Ls (n:Nat) (l:List TV):List TV:=l++List.replicate (n-l.length) .unk
def xX (f:Func):Code:=f.body.getD .skip
def XE (ty:gF) (rs:List ResultVar) (K:TV→List TB→Prop) (te:List TV) (tS:List TB):Prop :=
 match zF ty te tS rs with
 | some vs=>K (kG vs) tS
 | none=>False
def NV (P:Program) (ty:gF) (tt:TypeId→Option TT) (T:gd):Nat→Inl
 | 0=>fun _ _ _ _ _=>False
 | d+1=>fun fn j A tS K=>dW (Ls fn.ntmps A) fun te=>xE P ty tt T (NV P ty tt T d) (fK 0 tS) j (xX fn) 0 (yY fn.results.toList) te tS (N7 (XE ty fn.results.toList K))
end Go.Tv
end
section
namespace Go.Tv
open Go Go.Di Go.Proofs
theorem sr {b:Bool} {A B:Prop} (h:ay b A B):(b=true→A)∧(b=false→B):=by cases b<;>exact⟨fun e=>by cases e<;>exact h,fun e=>by cases e<;>exact h⟩
theorem mq {b:Bool} {A:Prop} (h:ay b A False):b=true∧A:=by
 cases b
 ·exact h.elim
 ·exact⟨rfl,h⟩
theorem jU:∀ {l:List Prop},dx l↔∀ p∈l,p
 | []=>by simp[dx]
 | p::l=>by
  have:=jU (l:=l)
  simp only[dx,this,bH,forall_eq_or_imp]
theorem jT:∀ {l:List Prop} {R:Prop},zL l R→dx l∧R
 | [],_,h=>⟨trivial,h⟩
 | p::l,R,h=>by
  obtain⟨h1,h2⟩:=jT h.2
  exact⟨jU.2 (by rintro q hq; rcases bH.1 hq with rfl | hq; exact h.1; exact jU.1 h1 q hq),h2⟩
theorem kS {l m:List Prop} (h:dx (l++m)):dx l∧dx m:=by
 rw[jU] at h
 exact⟨jU.2 fun p hp=>h p (List.mem_append_left _ hp),jU.2 fun p hp=>h p (List.mem_append_right _ hp)⟩
theorem kQ:∀ {l:List Prop} {R:Prop},impl l R→dx l→R
 | [],_,h,_=>h
 | p::l,R,h,k=>by
  rw[jU] at k
  exact kQ (h (k p (lz ..))) (jU.2 fun q hq=>k q (List.mem_cons_of_mem _ hq))
theorem kD {o:Option (List Prop)} {K:Prop} (h:ask o K):∃ l,o=some l∧dx l∧K:=by
 cases o with
 | none=>exact h.elim
 | some l=>exact⟨l,rfl,jT h⟩
theorem DI {R K:TV→List TV→List Prop→Prop}:∀ {s:s7},s.all R→s.some K→∃ v cs fs,R v cs fs∧K v cs fs
 | .ex _ _,h,⟨x,k⟩=>DI (h x) k
 | .res v cs fs,h,k=>⟨v,cs,fs,h,k⟩
theorem M3 {R:TV→List TV→Prop} {v:TV} {cs:List TV} {s:s7} (h:s.all fun v cs fs=>impl fs (R v cs)) (k:s.holds v cs):R v cs:=by
 obtain⟨v',iU,fs,h,rfl,rfl,hf⟩:=DI h k
 exact kQ h hf
theorem Jn {R:TV→Prop} {v:TV} {s:s7} (h:s.all fun v _ fs=>impl fs (R v)) (k:s.tV v):R v:=by
 obtain⟨v',iU,fs,h,rfl,hf⟩:=DI h k
 exact kQ h hf
theorem Jo {R:List TV→Prop} {cs:List TV} {s:s7} (h:s.all fun _ cs fs=>impl fs (R cs)) (k:s.wQ cs):R cs:=by
 obtain⟨v',iU,fs,h,rfl,hf⟩:=DI h k
 exact kQ h hf
mutual
theorem gX:∀ (v:TV) {K:TV→Prop},iI v K→K v
 | .unk,_,h=>h
 | .val v,_,h=>by cases v<;>exact h
 | .gZ,_,h=>h
 | .agg l,K,h=>by simp only[iI] at h; exact cU l (K:=fun l=>K (.agg l)) h
 | .gI l,K,h=>by simp only[iI] at h; exact cU l (K:=fun l=>K (.gI l)) h
 | .sl _ _ _,_,h=>h
 | .ptr _ _,_,h=>h
 | .eS _ _ _ _,_,h=>h
 | .mp _,_,h=>h
 | .so _ _,_,h=>h
 | .sp _ _ _ _,_,h=>h
 | .fn f a b,K,h=>by simp only[iI] at h; exact cU b (K:=fun b=>K (.fn f a b)) (cU a (K:=fun a=>dW b fun b=>K (.fn f a b)) h)
theorem cU:∀ (l:List TV) {K:List TV→Prop},dW l K→K l
 | [],_,h=>h
 | a::l,K,h=>cU l (K:=fun l=>K (a::l)) (gX a (K:=fun a=>dW l fun l=>K (a::l)) h)
end
theorem dN:∀ (l:List TB) {K:List TB→Prop},dI l K→K l
 | [],_,h=>h
 | .cells c::l,K,h=>dN l (K:=fun l=>K (.cells c::l)) (cU c (K:=fun c=>dI l fun l=>K (.cells c::l)) h)
 | .none::l,K,h=>dN l (K:=fun l=>K (.none::l)) h
 | .own e s::l,K,h=>dN l (K:=fun l=>K (.own e s::l)) h
 | .map kt c::l,K,h=>dN l (K:=fun l=>K (.map kt c::l)) h
 | .rows t e c z::l,K,h=>dN l (K:=fun l=>K (.rows t e c z::l)) h
theorem nW:∀ (l:List TV) (n:Nat) (v:TV) {K:List TV→Prop},BL l n v K→K (l.set n v)
 | [],_,_,_,h=>h
 | _::_,0,_,_,h=>h
 | a::l,n+1,v,K,h=>nW l n v (K:=fun l=>K (a::l)) h
theorem iX {te:List TV} {dst:Option Tmp} {v:TV} {K:List TV→Prop} (h:jH te dst v K):K (lY te dst v):=by
 cases dst with
 | none=>exact h
 | some d=>exact nW te d v h
theorem nI:∀ {l:List TV} {n:Nat} {v:TV},l[n]? = some v→l.set n v=l
 | [],_,_,h=>by simp at h
 | _::_,0,_,h=>by simp only[List.getElem?_cons_zero,az] at h; rw[h]; rfl
 | a::l,n+1,v,h=>by rw[List.set_cons_succ,nI (l:=l) (by simpa using h)]
mutual
theorem DY:∀ {a b:TV} {l:List Prop},WW a b=some l→dx l→a=b
 | a,b,l,h,k=>by
  unfold WW at h
  split at h
  ·rfl
  ·split at h
   ·rename_i hk
    subst hk
    cases h
    rw[show _=_ from k.1]
   ·cases h
  ·cases h; rw[show _=_ from k.1]
  ·cases h; rw[show _=_ from k.1]
  ·rfl
  ·rw[tZ h k]
  ·rw[tZ h k]
  ·split at h
   ·rename_i ht; subst ht; cases h; cases (show _=_ from k.1); rfl
   ·cases h
  ·split at h
   ·rename_i ht; subst ht; cases h; cases (show _=_ from k.1); rfl
   ·cases h
  ·split at h
   ·rename_i ht
    subst ht
    split at h
    ·rename_i hg; subst hg; cases h; cases (show _=_ from k.1); rfl
    ·cases h
   ·cases h
  ·split at h
   ·rename_i ht; obtain⟨rfl,rfl⟩:=ht; rfl
   ·cases h
  ·split at h
   ·rename_i ht; subst ht; rfl
   ·cases h
  ·split at h
   ·rename_i ht; obtain⟨rfl,rfl⟩:=ht; rfl
   ·cases h
  ·split at h
   ·rename_i ht
    subst ht
    cases h
    obtain⟨k1,k2,k3⟩:=k
    cases (show _=_ from k1); cases (show _=_ from k2); cases (show _=_ from k3.1); rfl
   ·cases h
  ·split at h
   ·rename_i hf
    subst hf
    split at h
    ·rename_i x y h1 h2
     cases h
     obtain⟨k1,k2⟩:=kS k
     rw[tZ h1 k1,tZ h2 k2]
    ·cases h
   ·cases h
  ·cases h
theorem tZ:∀ {a b:List TV} {l:List Prop},NM a b=some l→dx l→a=b
 | [],[],_,_,_=>rfl
 | a::l,b::m,_,h,k=>by
  simp only[NM] at h
  split at h
  ·rename_i x y h1 h2
   cases h
   obtain⟨k1,k2⟩:=kS k
   rw[DY h1 k1,tZ h2 k2]
  ·cases h
 | [],_::_,_,h,_=>by simp[NM] at h
 | _::_,[],_,h,_=>by simp[NM] at h
end
def LeV (u v:TV):Prop:=∀ l m,uN l m→uN (u::l) (v::m)
mutual
theorem Il:∀ {v u:TV} {l:List Prop},leT v u=some l→dx l→LeV u v
 | v,u,l,h,k=>by
  unfold leT at h
  split at h
  ·exact fun _ _ => .unk
  ·split at h
   ·rename_i ht
    subst ht
    cases h
    cases (show _=_ from k.1)
    exact fun _ _ => .no
   ·cases h
  ·split at h
   ·split at h
    ·rename_i ht
     subst ht
     cases h
     cases (show _=_ from k.1)
     exact fun _ _ => .nQ
    ·cases h
   ·cases h
  ·cases h
   cases (show _=_ from k.1)
   exact fun _ _ => .gZ
  ·rename_i a b
   have:=vp h k
   exact fun _ _ => .agg this
  ·rw[DY h k]
   exact fun _ _ => .same
theorem vp:∀ {v u:List TV} {l:List Prop},Dv v u=some l→dx l→uN u v
 | [],[],_,_,_ => .nil
 | a::l,b::m,_,h,k=>by
  simp only[Dv] at h
  split at h
  ·rename_i x y h1 h2
   cases h
   obtain⟨k1,k2⟩:=kS k
   exact Il h1 k1 _ _ (vp h2 k2)
  ·cases h
 | [],_::_,_,h,_=>by simp[Dv] at h
 | _::_,[],_,h,_=>by simp[Dv] at h
end
theorem Uv:∀ {v u:List TB} {l:List Prop},qA v u=some l→dx l→Bz u v
 | v,u,l,h,k=>by
  induction u generalizing v l with
  | nil=>exact .nil
  | cons b m ih =>
   cases v with
   | nil =>
    cases b with
    | own e s=>exact .new (ih _ _ h k)
    | _=>simp[qA] at h
   | cons a v =>
    cases b with
    | none=>exact .none (ih _ _ (by simpa [qA] using h) k)
    | cells c =>
     cases a with
     | cells d =>
      simp only[qA] at h
      split at h
      ·rename_i x y h1 h2
       cases h
       obtain⟨k1,k2⟩:=kS k
       exact .cells (vp h1 k1) (ih _ _ h2 k2)
      ·cases h
     | _=>simp[qA] at h
    | own e s =>
     cases a with
     | own e' s' =>
      simp only[qA] at h
      split at h
      ·rename_i he
       obtain⟨rfl,rfl⟩:=he
       exact .own (ih _ _ h k)
      ·cases h
     | _=>simp[qA] at h
    | map kt c =>
     cases a with
     | map U8 c' =>
      simp only[qA] at h
      split at h
      ·rename_i he
       subst he
       split at h
       ·rename_i y h2
        cases h
        obtain⟨k1,k2⟩:=k
        cases (show _=_ from k1)
        exact .map (ih _ _ h2 k2)
       ·cases h
      ·cases h
     | _=>simp[qA] at h
    | rows t e c z =>
     cases a with
     | rows t' e' c' z' =>
      simp only[qA] at h
      split at h
      ·rename_i he
       subst he
       split at h
       ·rename_i hez
        obtain⟨rfl,rfl⟩:=hez
        split at h
        ·rename_i y h2
         cases h
         obtain⟨k1,k2⟩:=k
         cases (show _=_ from k1)
         exact .rows (ih _ _ h2 k2)
        ·cases h
       ·cases h
      ·cases h
     | _=>simp[qA] at h
theorem vJ {sl:List (Nat×TV)} {keep:Nat}:∀ {i:Nat} {te:List TV} {l:List Prop},tg sl i te=some l→dx l→uN (mb sl keep i te) te
 | _,[],_,_,_ => .nil
 | i,v::te,l,h,k=>by
  simp only[tg] at h
  simp only[mb]
  split at h
  ·rename_i p hp
   split at h
   ·rename_i x y h1 h2
    cases h
    obtain⟨k1,k2⟩:=kS k
    exact Il h1 k1 _ _ (vJ h2 k2)
   ·cases h
  ·rename_i hp
   split
   ·exact .same (vJ h k)
   ·exact .unk (vJ h k)
theorem jb {pl:List (Nat×List TV)} {mp:MpL} {own:List (Nat×Nat)}:∀ {i:Nat} {tS:List TB} {l:List Prop},jK pl mp i tS=some l→dx l→Bz (th pl mp i tS++own.map fun p=>TB.own p.1 p.2) tS
 | _,[],_,_,_=>Gp own
 | i,.none::tS,l,h,k=>by
  simp only[jK] at h
  exact .none (jb h k)
 | i,.own _ _::tS,l,h,k=>by
  simp only[jK] at h
  exact .own (jb h k)
 | i,.cells c::tS,l,h,k=>by
  simp only[jK] at h
  simp only[th,List.cons_append]
  split at h
  ·rename_i p hp
   split at h
   ·rename_i x y h1 h2
    cases h
    obtain⟨k1,k2⟩:=kS k
    exact .cells (vp h1 k1) (jb h2 k2)
   ·cases h
  ·exact .cells (uN.refl c) (jb h k)
 | i,.map kt c::tS,l,h,k=>by
  simp only[jK] at h
  simp only[th,List.cons_append]
  split at h
  ·rename_i a U8 c' hp
   split at h
   ·rename_i he
    subst he
    split at h
    ·rename_i y h2
     cases h
     obtain⟨k1,k2⟩:=k
     cases (show c=c' from k1)
     exact .map (jb h2 k2)
    ·cases h
   ·cases h
  ·exact .map (jb h k)
 | i,.rows kt e c z::tS,l,h,k=>by
  simp only[jK] at h
  simp only[th,List.cons_append]
  split at h
  ·rename_i a U8 c' hp
   split at h
   ·rename_i he
    subst he
    split at h
    ·rename_i y h2
     cases h
     obtain⟨k1,k2⟩:=k
     cases (show c=c' from k1)
     exact .rows (jb h2 k2)
    ·cases h
   ·cases h
  ·exact .rows (jb h k)
variable {P:Program} {ty:gF} {tt:TypeId→Option TT} {T:gd} {ι ι' w:lW} {S S':av} {te mh:List TV} {env:List DV} {tS jh:List TB} {aI:bP} {call:bM} {yf:eW} {o:Oper} {aB nT:Nat} {B:List Nat} {r:TR} {ops:Array Oper} {L:Nat} {fn:FuncId} {iA:Bool}
theorem Jm {v:TV} {c:Prop} (h:Ag te o=some (v,c)) (hc:c):bL P ty tt te tS o=some (v,True):=by
 unfold Ag at h
 split at h
 ·rename_i t x y _ ho
  split at h
  ·rename_i a b h1 h2
   cases h
   have:iE P (do eqGuard .add t x y (.int .i64 a) (.int .i64 b); binOp .add t (.int .i64 a) (.int .i64 b))=some (.val (.int .i64 (IntKind.i64.wrap (a+b)))):=rfl
   simp only[bL,ho,h1,h2,Option.bind_some,gJ,this,tK,Option.map_some,wH hc.1 hc.2]
  ·cases h
 ·rename_i t x y _ ho
  split at h
  ·rename_i a b h1 h2
   cases h
   have:iE P (do eqGuard .sub t x y (.int .i64 a) (.int .i64 b); binOp .sub t (.int .i64 a) (.int .i64 b))=some (.val (.int .i64 (IntKind.i64.wrap (a-b)))):=rfl
   simp only[bL,ho,h1,h2,Option.bind_some,gJ,this,tK,Option.map_some,wH hc.1 hc.2]
  ·cases h
 ·rename_i t x y _ ho
  split at h
  ·rename_i a b h1 h2
   cases h
   have:iE P (do eqGuard .mul t x y (.int .i64 a) (.int .i64 b); binOp .mul t (.int .i64 a) (.int .i64 b))=some (.val (.int .i64 (IntKind.i64.wrap (a*b)))):=rfl
   simp only[bL,ho,h1,h2,Option.bind_some,gJ,this,tK,Option.map_some,wH hc.1 hc.2]
  ·cases h
 ·rename_i t x ho
  split at h
  ·rename_i a h1
   cases h
   have:iE P (Op.unary .neg (.int .i64 a))=some (.val (.int .i64 (IntKind.i64.wrap (-a)))):=by rw[← Int.zero_sub]; rfl
   simp only[bL,ho,h1,Option.bind_some,gJ,this,tK,Option.map_some,wH hc.1 hc.2]
  ·cases h
 ·rename_i t x y _ ho
  split at h
  ·rename_i a b h1 h2
   cases h
   have:iE P (do eqGuard .and t x y (.int .i64 a) (.int .i64 b); binOp .and t (.int .i64 a) (.int .i64 b))=some (.val (.int .i64 (DD a b))):=by cases a<;>rfl
   simp only[bL,ho,h1,h2,Option.bind_some,gJ,this,tK,Option.map_some]
  ·cases h
 ·cases h
theorem UR {t:TypeId} {xs ys:Array Value} {b:Bool} (ht:P.underlying t=some (.struct (P.fieldsOf t))) (hp:P.stoodInHeld t=false) (hm:P.eqGuardType P.depth t=false) (hf:cu P (Op.eqFields 9999 xs ys (P.fieldsOf t).toList)=some b) (x y:Operand) :
  iE P (do eqGuard .eql t x y (.agg xs) (.agg ys); binOp .eql t (.agg xs) (.agg ys))=some (.val (.bool b)):=by
 have h1:cu P (eqGuard .eql t x y (.agg xs) (.agg ys))=some ():=by
  simp only[eqGuard]
  simp only[fD,aD,if_false,dR,lD,Option.bind_some,hm,Bool.not_false,if_true]
  rfl
 have h2:cu P (binOp .eql t (.agg xs) (.agg ys))=some (.bool b):=by
  simp only[binOp,dR,Op.equal,Op.maxDepth,qm 9999 t xs ys ht hp,hf,Option.bind_some]
  rfl
 rw[iE,dR,h1,Option.bind_some,h2]
 rfl
theorem KX {xs ys:Array Value} {fs:List Field} {b:Bool} (h:XI P xs ys fs=some b):cu P (Op.eqFields 9999 xs ys fs)=some b:=AO (fun _ _ _ _ h=>Pz (by omega) h) h
theorem Rt {b:Bool} (h:Oa P te o=some b):bL P ty tt te tS o=some (.val (.bool b),True):=by
 unfold Oa at h
 split at h
 ·rename_i t x y _ ho
  split at h
  ·rename_i xs ys h1 h2
   split at h
   ·rename_i fs h3 h4 h5
    simp only[ah] at h
    obtain⟨r,h6,rfl⟩:=h
    have e:=UQ (P:=P) (qj h3) h4 h5 (b:=r) (by simp only[Program.fieldsOf,h3]; exact KX h6) x y
    simp only[bL,ho,h1,h2,e,tK,Option.map_some]
   ·cases h
  ·cases h
 ·rename_i t x y _ ho
  split at h
  ·rename_i xs ys h1 h2
   split at h
   ·rename_i fs h3 h4 h5
    have e:=UR (P:=P) (qj h3) h4 h5 (b:=b) (by simp only[Program.fieldsOf,h3]; exact KX h) x y
    simp only[bL,ho,h1,h2,e,tK,Option.map_some]
   ·cases h
  ·cases h
 ·cases h
end Go.Tv
end
